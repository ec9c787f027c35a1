/- Tables: Check: walk. Tables: Many: walk. Tables: Rows: walk. -/
import Derived.Test.YtolhifnlahllnaaGreatDoorTbc
import Derived.Test.YtolhifnlahllnaaGreatDoorClx
import Derived.Test.YtolhifnlahllnaaGreatDoorGen
import Derived.Test.YtolhifnlahllnaaGreatDoorGhx
section
namespace Hy.Tb
open Go
/-- a table: its columns, its rows of cells -/
abbrev Tab := List Ent × List (List Cel)
def tbr (n0 : Nat) : List Ent → List Ent → List (List Cel) → Nat
  | pre, c :: r, d :: s => if colck c pre ≠ 0 then colck c pre else if ccol c.2 d ≠ 0 then ccol c.2 d else if d.length ≠ n0 then 1 else tbr n0 (pre ++ [c]) r s
  | _, _, _ => 0
def many (t : Tab) : Nat := (t.2.getD 0 []).length
@[irreducible] def tbck (t : Tab) : Nat := if 6 < t.1.length then 2 else if t.1.length ≠ t.2.length then 1 else tbr (many t) [] t.1 t.2
theorem tbck_many {t : Tab} (h : 6 < t.1.length) : tbck t = 2 := by unfold tbck; rw [if_pos h]
theorem tbck_form {t : Tab} (h : ¬ 6 < t.1.length) (h2 : t.1.length ≠ t.2.length) : tbck t = 1 := by unfold tbck; rw [if_neg h, if_pos h2]
theorem tbck_go {t : Tab} (h : ¬ 6 < t.1.length) (h2 : t.1.length = t.2.length) : tbck t = tbr (many t) [] t.1 t.2 := by unfold tbck; rw [if_neg h, if_neg (by omega)]
theorem tbr_step {n0 : Nat} {c : List Ent} {d : List (List Cel)} {k : Nat} (h1 : k < c.length) (h2 : k < d.length) :
    tbr n0 (c.take k) (c.drop k) (d.drop k) = if colck c[k] (c.take k) ≠ 0 then colck c[k] (c.take k) else if ccol c[k].2 d[k] ≠ 0 then ccol c[k].2 d[k] else if d[k].length ≠ n0 then 1 else tbr n0 (c.take (k + 1)) (c.drop (k + 1)) (d.drop (k + 1)) := by
  rw [List.drop_eq_getElem_cons h1, List.drop_eq_getElem_cons h2, List.take_succ_eq_append_getElem h1]; rfl
theorem colck_le (c : Ent) (l : List Ent) : colck c l ≤ 7 := by unfold colck; (repeat' split) <;> omega
theorem ccol_le (k : Int) (l : List Cel) : ccol k l ≤ 7 := by unfold ccol; (repeat' split) <;> first | omega | exact Cel.bad_le _ _
end Hy.Tb
namespace Go.Proofs.YtolhifnlahllnaaGreatDoor
open Go.RowKit Hy
/-- a table that is read -/
def TbV (w : World) (v : Value) (t : Tb.Tab) : Prop := ∃ A c B d L, v = .agg #[.slice A t.1.length c, .slice B t.2.length d] ∧ Rd w A (ens t.1) ∧ Rd w B (rws' L) ∧ L.map (·.2) = t.2 ∧ (∀ x ∈ L, RwOk w x) ∧ (A = none → t.1.length = 0) ∧ (B = none → t.2.length = 0) ∧ t.1.length ≤ c
structure TbB (t : Tb.Tab) : Prop where
  n : t.1.length ≤ 140737488355328
  m : t.2.length ≤ 140737488355328
  s : ∀ x ∈ t.1, x.1.size ≤ 140737488355328
  d : ∀ x ∈ t.2, x.length ≤ 140737488355328
set_option maxHeartbeats 3200000 in
set_option maxRecDepth 100000 in
theorem tcheck_any (t : Tb.Tab) (v : Value) (w : World) (hv : TbV w v t) (hb : TbB t) : Calls Tryz.prog 29 #[v] w fun e w' => e = .returned (.int .i64 (Tb.tbck t : Nat)) ∧ Ext w w' := by
  obtain ⟨A, c, B, d, L, rfl, h1, h2, hL, hok, z1, z2, hc⟩ := hv
  obtain ⟨n, hn⟩ : ∃ n, n = t.1.length := ⟨_, rfl⟩
  obtain ⟨m, hm⟩ : ∃ n, n = t.2.length := ⟨_, rfl⟩
  have bn := hb.n; have bm := hb.m
  have hc' := hc
  rw [← hn] at hc'
  have HN := hid hn; have HM := hid hm
  have XN := hid (Ext.new (ext_refl w) (.cells #[.slice A n c, .slice B m d] 25))
  have BN := hid (Blk.new w 25 #[.slice A n c, .slice B m d])
  rw [← hn, ← hm]
  by_cases h6 : 6 < t.1.length
  · have HV := hid (Tb.tbck_many h6)
    have hnI : (6 : Int) < (n : Int) := by omega
    clear h1 h2 hL hok z1 z2 hc hc' hn hm hb bn bm h6
    go_enter Tryz.func29, Tryz.ntmps29
    go_wp2
    go_returns
    exact ⟨by rw [HV.out]; rfl, XN.out⟩
  · by_cases hnm : t.1.length = t.2.length
    · obtain rfl : n = m := by omega
      obtain ⟨R, hR⟩ : ∃ R, R = Tb.tbck t := ⟨_, rfl⟩
      rw [← hR]
      have HR := hid (show R = Tb.tbr (Tb.many t) (t.1.take 0) (t.1.drop 0) (t.2.drop 0) from hR.trans (Tb.tbck_go h6 hnm))
      have HA := hid h1; have HB := hid h2; have HLM := hid hL; have HOK := hid hok
      have HSZ := hid hb.s; have HDZ := hid hb.d
      have HC' := hid hc'
      have hnI : (n : Int) ≤ 6 := by omega
      have HN6 := hid (show n ≤ 6 by omega)
      clear h1 h2 hL hok z1 z2 hc hc' hn hm hb bn bm h6 hnm hR
      go_enter Tryz.func29, Tryz.ntmps29
      go_upto_region 1 with fail
      refine wp_gen (fun w' => Ext w w' ∧ Blk w' w.heap.size 25 #[.slice A n c, .slice B n d]) ⟨XN.out, BN.out⟩ ?_
      rintro wz ⟨B0, B1⟩
      have XZ := hid B0
      have F1 := hid B1
      have p0 := B1.cell 0
      have p1 := B1.cell 1
      clear B0 B1 XN BN
      go_wp2
      go_loopw [23] (fun i wr => ∃ k : Nat, k ≤ n ∧ i = .int .i64 k ∧ Hid (R = Tb.tbr (Tb.many t) (t.1.take k) (t.1.drop k) (t.2.drop k)) ∧ Hid (Ext wz wr)) (fun i _ => n - (intOf i).toNat)
      case atStart => exact ⟨0, Nat.zero_le _, rfl, HR, hid (ext_refl _)⟩
      case round =>
        obtain ⟨k, hk, rfl, HI, X⟩ := hrel
        by_cases hlt : k < n
        · have hka : k < t.1.length := by rw [← HN.out]; exact hlt
          have hkd : k < t.2.length := by rw [← HM.out]; exact hlt
          have hLl : L.length = t.2.length := by rw [← HLM.out, List.length_map]
          have hkL : k < L.length := by rw [hLl]; exact hkd
          have h0L : 0 < L.length := by omega
          have X0 : Hid (Ext w wr) := hid (XZ.out.then X.out)
          obtain ⟨b1, o1, e1, l1, c1⟩ := HA.out.ents k hka
          have d0 := ext_cell X0.out (c1 k hka).1
          have d1 := ext_cell X0.out (c1 k hka).2
          obtain ⟨b2, o2, e2, l2, c2⟩ := HB.out.rows k hkL
          have r0 := ext_cell X0.out (c2 k hkL)
          have r1 := ext_cell X0.out (c2 0 h0L)
          have hdk : t.2[k] = L[k].2 := by simp [← HLM.out]
          have hd0 : Tb.many t = L[0].1.2.1 := by
            unfold Tb.many
            rw [← (HOK.out _ (List.getElem_mem h0L)).1, List.getD_eq_getElem?_getD, ← HLM.out, List.getElem?_map, List.getElem?_eq_getElem h0L]; rfl
          obtain ⟨w1, w2, w3, w4⟩ := HOK.out _ (List.getElem_mem hkL)
          have hI := HI.out
          rw [Tb.tbr_step hka hkd, hdk, hd0, w1] at hI
          have HC1 := hid (fun wx (hx : Ext w wx) => col_any t.1[k].1 t.1[k].2 (t.1.take k) A k c wx (by rw [List.length_take]; omega) ((Rd.take (f := ent2) HA.out k).keep hx) (by omega) (HSZ.out _ (List.getElem_mem hka)))
          have HC2 := hid (fun wx (hx : Ext w wx) => ccol_any t.1[k].2 L[k].2 L[k].1.1 L[k].1.2.1 L[k].1.2.2 wx w1 (w4.keep hx) (by rw [← w1, ← hdk]; exact HDZ.out _ (List.getElem_mem hkd)))
          have sl1 := sl_to (P := Tryz.prog) (t := 22) (m := 2) Tryz.underlying22 (by kernel_rfl) A n c .i64 k (by have := HC'.out; omega)
          have hkI : (k : Int) < (n : Int) := by omega
          have h0I : (0 : Int) < (n : Int) := by omega
          have hE1 := Tb.colck_le t.1[k] (t.1.take k)
          have hE2 := Tb.ccol_le t.1[k].2 L[k].2
          generalize Tb.colck t.1[k] (t.1.take k) = E1 at *
          generalize Tb.ccol t.1[k].2 L[k].2 = E2 at *
          have p0 := (F1.out.keep X.out).cell 0
          have p1 := (F1.out.keep X.out).cell 1
          have HMD := hid hd0
          clear hd0 hdk w1 w2 w3 w4 c1 c2 l1 l2
          generalize t.1[k].1 = s at *
          generalize t.1[k].2 = y at *
          generalize L[k].1.1 = Ak at *
          generalize L[k].1.2.1 = lk at *
          generalize L[k].1.2.2 = ck at *
          generalize L[0].1.1 = A0 at *
          generalize L[0].1.2.1 = l0 at *
          generalize L[0].1.2.2 = c0 at *
          rw [Nat.add_zero] at r1
          have he1 := hid e1; have he2 := hid e2
          clear hka hkd hLl hkL h0L e1 e2
          have e1 := he1.out
          have e2 := he2.out
          subst e1 e2
          by_cases h1 : E1 = 0
          · subst h1
            rw [if_neg (by simp)] at hI
            by_cases h2 : E2 = 0
            · subst h2
              rw [if_neg (by simp)] at hI
              by_cases h3 : lk = l0
              · subst h3
                rw [if_neg (by simp)] at hI
                have HI2 := hid hI
                clear hI hE1 hE2
                go_upto_region 8 with fail
                have XA := hid (Ext.new (ext_refl wr) (.cells #[.string s, .int .i64 y] 39))
                have BX := hid (Blk.new wr 39 #[.string s, .int .i64 y])
                have FA := hid ((F1.out.keep X.out).keep XA.out)
                have XW := hid (X0.out.then XA.out)
                replace r0 := ext_cell XA.out r0
                replace r1 := ext_cell XA.out r1
                clear p0 p1 d0 d1
                generalize wr.alloc (.cells #[.string s, .int .i64 y] 39) = y0 at *
                have p0 := FA.out.cell 0
                have p1 := FA.out.cell 1
                have q0 := BX.out.cell 0
                have q1 := BX.out.cell 1
                have p0r := cell_regrown p0
                have q0r := cell_regrown q0
                have q1r := cell_regrown q1
                refine wp_region_walk [(0, true), (1, true), (2, true), (3, true), (4, true), (5, false), (6, true)] (by kernel_rfl) (by kernel_rfl) (fun _ _ _ _ _ h => h) (by kernel_rfl) (by rfl) ?_
                simp only [List.filterMap_cons, List.filterMap_nil, List.getElem?_toArray, List.getElem?_cons_zero, List.getElem?_cons_succ, Option.map_some]
                repeat (refine wpM_val (by rfl) ?_; intro K hK; go_big_quiet_op; go_big_quiet_on)
                refine wpM_do (by rfl) ?_
                intro K hK
                go_simp
                refine Calls.mono (HC1.out _ (Ext.then XW.out (Ext.draw (ext_refl y0)))) ?_
                rintro e y1 ⟨rfl, hx⟩
                have XR := hid (Ext.then (Ext.draw (ext_refl y0)) hx)
                refine hK _ _ XR.out ?_
                clear K hK hx
                repeat (refine wpM_val (by rfl) ?_; intro K hK; go_big_quiet_op; go_big_quiet_on)
                refine wpM_nil ?_
                have XW1 := hid (XW.out.then XR.out)
                have XA1 := hid (XA.out.then XR.out)
                replace r0 := ext_cell XR.out r0
                replace r1 := ext_cell XR.out r1
                replace p0 := ext_cell XR.out p0
                replace p1 := ext_cell XR.out p1
                replace q1 := ext_cell XR.out q1
                clear p0r q0r q1r q0 XR
                go_upto_region 11 with fail
                have p1r := cell_regrown p1
                have q1r := cell_regrown q1
                have r0r := cell_regrown r0
                refine wp_region_walk [(0, true), (1, true), (2, true), (3, true), (4, true), (5, true), (6, true), (7, false), (8, true)] (by kernel_rfl) (by kernel_rfl) (fun _ _ _ _ _ h => h) (by kernel_rfl) (by rfl) ?_
                simp only [List.filterMap_cons, List.filterMap_nil, List.getElem?_toArray, List.getElem?_cons_zero, List.getElem?_cons_succ, Option.map_some]
                repeat (refine wpM_val (by rfl) ?_; intro K hK; go_big_quiet_op; go_big_quiet_on)
                refine wpM_do (by rfl) ?_
                intro K hK
                go_simp
                refine Calls.mono (HC2.out _ (Ext.then XW1.out (Ext.draw (ext_refl y1)))) ?_
                rintro e y2 ⟨rfl, hx⟩
                have XR := hid (Ext.then (Ext.draw (ext_refl y1)) hx)
                refine hK _ _ XR.out ?_
                clear K hK hx
                repeat (refine wpM_val (by rfl) ?_; intro K hK; go_big_quiet_op; go_big_quiet_on)
                refine wpM_nil ?_
                have XW2 := hid (XW1.out.then XR.out)
                have XA2 := hid (XA1.out.then XR.out)
                replace r0 := ext_cell XR.out r0
                replace r1 := ext_cell XR.out r1
                replace p1 := ext_cell XR.out p1
                clear p1r q1r r0r XR
                go_wp2_with fail
                go_quiet (fail)
                go_wp2
                go_roundw
                case rel => exact ⟨k + 1, by omega, by go_num, by rw [HMD.out]; exact HI2, hid ((X.out.then XA2.out).draws _)⟩
                case measure => simp [intOf] <;> omega
              · rw [if_pos h3] at hI
                have HI2 := hid hI
                have e5 : ((lk : Int) == (l0 : Int)) = false := by rw [beq_eq_false_iff_ne]; omega
                have e6 : ((lk : Int) != (l0 : Int)) = true := by rw [bne_iff_ne]; omega
                clear hI hE1 hE2 h3
                go_upto_region 8 with fail
                have XA := hid (Ext.new (ext_refl wr) (.cells #[.string s, .int .i64 y] 39))
                have BX := hid (Blk.new wr 39 #[.string s, .int .i64 y])
                have FA := hid ((F1.out.keep X.out).keep XA.out)
                have XW := hid (X0.out.then XA.out)
                replace r0 := ext_cell XA.out r0
                replace r1 := ext_cell XA.out r1
                clear p0 p1 d0 d1
                generalize wr.alloc (.cells #[.string s, .int .i64 y] 39) = y0 at *
                have p0 := FA.out.cell 0
                have p1 := FA.out.cell 1
                have q0 := BX.out.cell 0
                have q1 := BX.out.cell 1
                have p0r := cell_regrown p0
                have q0r := cell_regrown q0
                have q1r := cell_regrown q1
                refine wp_region_walk [(0, true), (1, true), (2, true), (3, true), (4, true), (5, false), (6, true)] (by kernel_rfl) (by kernel_rfl) (fun _ _ _ _ _ h => h) (by kernel_rfl) (by rfl) ?_
                simp only [List.filterMap_cons, List.filterMap_nil, List.getElem?_toArray, List.getElem?_cons_zero, List.getElem?_cons_succ, Option.map_some]
                repeat (refine wpM_val (by rfl) ?_; intro K hK; go_big_quiet_op; go_big_quiet_on)
                refine wpM_do (by rfl) ?_
                intro K hK
                go_simp
                refine Calls.mono (HC1.out _ (Ext.then XW.out (Ext.draw (ext_refl y0)))) ?_
                rintro e y1 ⟨rfl, hx⟩
                have XR := hid (Ext.then (Ext.draw (ext_refl y0)) hx)
                refine hK _ _ XR.out ?_
                clear K hK hx
                repeat (refine wpM_val (by rfl) ?_; intro K hK; go_big_quiet_op; go_big_quiet_on)
                refine wpM_nil ?_
                have XW1 := hid (XW.out.then XR.out)
                have XA1 := hid (XA.out.then XR.out)
                replace r0 := ext_cell XR.out r0
                replace r1 := ext_cell XR.out r1
                replace p0 := ext_cell XR.out p0
                replace p1 := ext_cell XR.out p1
                replace q1 := ext_cell XR.out q1
                clear p0r q0r q1r q0 XR
                go_upto_region 11 with fail
                have p1r := cell_regrown p1
                have q1r := cell_regrown q1
                have r0r := cell_regrown r0
                refine wp_region_walk [(0, true), (1, true), (2, true), (3, true), (4, true), (5, true), (6, true), (7, false), (8, true)] (by kernel_rfl) (by kernel_rfl) (fun _ _ _ _ _ h => h) (by kernel_rfl) (by rfl) ?_
                simp only [List.filterMap_cons, List.filterMap_nil, List.getElem?_toArray, List.getElem?_cons_zero, List.getElem?_cons_succ, Option.map_some]
                repeat (refine wpM_val (by rfl) ?_; intro K hK; go_big_quiet_op; go_big_quiet_on)
                refine wpM_do (by rfl) ?_
                intro K hK
                go_simp
                refine Calls.mono (HC2.out _ (Ext.then XW1.out (Ext.draw (ext_refl y1)))) ?_
                rintro e y2 ⟨rfl, hx⟩
                have XR := hid (Ext.then (Ext.draw (ext_refl y1)) hx)
                refine hK _ _ XR.out ?_
                clear K hK hx
                repeat (refine wpM_val (by rfl) ?_; intro K hK; go_big_quiet_op; go_big_quiet_on)
                refine wpM_nil ?_
                have XW2 := hid (XW1.out.then XR.out)
                have XA2 := hid (XA1.out.then XR.out)
                replace r0 := ext_cell XR.out r0
                replace r1 := ext_cell XR.out r1
                replace p1 := ext_cell XR.out p1
                clear p1r q1r r0r XR
                go_wp2_with fail
                go_quiet (fail)
                go_wp2
                go_returns
                exact ⟨by rw [HI2.out]; rfl, XW2.out.draws _⟩
            · rw [if_pos h2] at hI
              have HI2 := hid hI
              have e5 : ((E2 : Int) != 0) = true := by simp; omega
              have e6 : ((E2 : Int) == 0) = false := by rw [beq_eq_false_iff_ne]; omega
              clear hI hE1 hE2 h2
              go_upto_region 8 with fail
              have XA := hid (Ext.new (ext_refl wr) (.cells #[.string s, .int .i64 y] 39))
              have BX := hid (Blk.new wr 39 #[.string s, .int .i64 y])
              have FA := hid ((F1.out.keep X.out).keep XA.out)
              have XW := hid (X0.out.then XA.out)
              replace r0 := ext_cell XA.out r0
              replace r1 := ext_cell XA.out r1
              clear p0 p1 d0 d1
              generalize wr.alloc (.cells #[.string s, .int .i64 y] 39) = y0 at *
              have p0 := FA.out.cell 0
              have p1 := FA.out.cell 1
              have q0 := BX.out.cell 0
              have q1 := BX.out.cell 1
              have p0r := cell_regrown p0
              have q0r := cell_regrown q0
              have q1r := cell_regrown q1
              refine wp_region_walk [(0, true), (1, true), (2, true), (3, true), (4, true), (5, false), (6, true)] (by kernel_rfl) (by kernel_rfl) (fun _ _ _ _ _ h => h) (by kernel_rfl) (by rfl) ?_
              simp only [List.filterMap_cons, List.filterMap_nil, List.getElem?_toArray, List.getElem?_cons_zero, List.getElem?_cons_succ, Option.map_some]
              repeat (refine wpM_val (by rfl) ?_; intro K hK; go_big_quiet_op; go_big_quiet_on)
              refine wpM_do (by rfl) ?_
              intro K hK
              go_simp
              refine Calls.mono (HC1.out _ (Ext.then XW.out (Ext.draw (ext_refl y0)))) ?_
              rintro e y1 ⟨rfl, hx⟩
              have XR := hid (Ext.then (Ext.draw (ext_refl y0)) hx)
              refine hK _ _ XR.out ?_
              clear K hK hx
              repeat (refine wpM_val (by rfl) ?_; intro K hK; go_big_quiet_op; go_big_quiet_on)
              refine wpM_nil ?_
              have XW1 := hid (XW.out.then XR.out)
              have XA1 := hid (XA.out.then XR.out)
              replace r0 := ext_cell XR.out r0
              replace r1 := ext_cell XR.out r1
              replace p0 := ext_cell XR.out p0
              replace p1 := ext_cell XR.out p1
              replace q1 := ext_cell XR.out q1
              clear p0r q0r q1r q0 XR
              go_upto_region 11 with fail
              have p1r := cell_regrown p1
              have q1r := cell_regrown q1
              have r0r := cell_regrown r0
              refine wp_region_walk [(0, true), (1, true), (2, true), (3, true), (4, true), (5, true), (6, true), (7, false), (8, true)] (by kernel_rfl) (by kernel_rfl) (fun _ _ _ _ _ h => h) (by kernel_rfl) (by rfl) ?_
              simp only [List.filterMap_cons, List.filterMap_nil, List.getElem?_toArray, List.getElem?_cons_zero, List.getElem?_cons_succ, Option.map_some]
              repeat (refine wpM_val (by rfl) ?_; intro K hK; go_big_quiet_op; go_big_quiet_on)
              refine wpM_do (by rfl) ?_
              intro K hK
              go_simp
              refine Calls.mono (HC2.out _ (Ext.then XW1.out (Ext.draw (ext_refl y1)))) ?_
              rintro e y2 ⟨rfl, hx⟩
              have XR := hid (Ext.then (Ext.draw (ext_refl y1)) hx)
              refine hK _ _ XR.out ?_
              clear K hK hx
              repeat (refine wpM_val (by rfl) ?_; intro K hK; go_big_quiet_op; go_big_quiet_on)
              refine wpM_nil ?_
              have XW2 := hid (XW1.out.then XR.out)
              have XA2 := hid (XA1.out.then XR.out)
              replace r0 := ext_cell XR.out r0
              replace r1 := ext_cell XR.out r1
              replace p1 := ext_cell XR.out p1
              clear p1r q1r r0r XR
              go_wp2
              go_returns
              exact ⟨by rw [HI2.out]; rfl, XW2.out⟩
          · rw [if_pos h1] at hI
            have HI2 := hid hI
            have e5 : ((E1 : Int) != 0) = true := by simp; omega
            have e6 : ((E1 : Int) == 0) = false := by rw [beq_eq_false_iff_ne]; omega
            clear hI hE1 hE2 h1
            go_upto_region 8 with fail
            have XA := hid (Ext.new (ext_refl wr) (.cells #[.string s, .int .i64 y] 39))
            have BX := hid (Blk.new wr 39 #[.string s, .int .i64 y])
            have FA := hid ((F1.out.keep X.out).keep XA.out)
            have XW := hid (X0.out.then XA.out)
            replace r0 := ext_cell XA.out r0
            replace r1 := ext_cell XA.out r1
            clear p0 p1 d0 d1
            generalize wr.alloc (.cells #[.string s, .int .i64 y] 39) = y0 at *
            have p0 := FA.out.cell 0
            have p1 := FA.out.cell 1
            have q0 := BX.out.cell 0
            have q1 := BX.out.cell 1
            have p0r := cell_regrown p0
            have q0r := cell_regrown q0
            have q1r := cell_regrown q1
            refine wp_region_walk [(0, true), (1, true), (2, true), (3, true), (4, true), (5, false), (6, true)] (by kernel_rfl) (by kernel_rfl) (fun _ _ _ _ _ h => h) (by kernel_rfl) (by rfl) ?_
            simp only [List.filterMap_cons, List.filterMap_nil, List.getElem?_toArray, List.getElem?_cons_zero, List.getElem?_cons_succ, Option.map_some]
            repeat (refine wpM_val (by rfl) ?_; intro K hK; go_big_quiet_op; go_big_quiet_on)
            refine wpM_do (by rfl) ?_
            intro K hK
            go_simp
            refine Calls.mono (HC1.out _ (Ext.then XW.out (Ext.draw (ext_refl y0)))) ?_
            rintro e y1 ⟨rfl, hx⟩
            have XR := hid (Ext.then (Ext.draw (ext_refl y0)) hx)
            refine hK _ _ XR.out ?_
            clear K hK hx
            repeat (refine wpM_val (by rfl) ?_; intro K hK; go_big_quiet_op; go_big_quiet_on)
            refine wpM_nil ?_
            have XW1 := hid (XW.out.then XR.out)
            have XA1 := hid (XA.out.then XR.out)
            replace r0 := ext_cell XR.out r0
            replace r1 := ext_cell XR.out r1
            replace p0 := ext_cell XR.out p0
            replace p1 := ext_cell XR.out p1
            replace q1 := ext_cell XR.out q1
            clear p0r q0r q1r q0 XR
            go_wp2
            go_returns
            exact ⟨by rw [HI2.out]; rfl, XW1.out⟩
        · obtain rfl : n = k := by omega
          have HE := hid (show R = 0 by rw [HI.out, List.drop_of_length_le (l := t.1) (by rw [← HN.out]; exact Nat.le_refl _)]; rfl)
          clear p0 p1
          go_wp2
          go_returns
          exact ⟨by rw [HE.out]; rfl, XZ.out.then X.out⟩
    · have HV := hid (Tb.tbck_form h6 hnm)
      have hnI : (n : Int) ≤ 6 := by omega
      have e1 : ((n : Int) == (m : Int)) = false := by rw [beq_eq_false_iff_ne]; omega
      have e2 : ((n : Int) != (m : Int)) = true := by rw [bne_iff_ne]; omega
      clear h1 h2 hL hok z1 z2 hc hc' hn hm hb bn bm h6 hnm
      go_enter Tryz.func29, Tryz.ntmps29
      go_wp2
      go_returns
      exact ⟨by rw [HV.out]; rfl, XN.out⟩
end Go.Proofs.YtolhifnlahllnaaGreatDoor
end
section
namespace Go.Proofs.YtolhifnlahllnaaGreatDoor
open Go.RowKit Hy
theorem TbV.keep {w w' : World} {v : Value} {t : Tb.Tab} (h : TbV w v t) (hx : Ext w w') : TbV w' v t := by
  obtain ⟨A, c, B, d, L, e, h1, h2, hL, hok, z⟩ := h
  exact ⟨A, c, B, d, L, e, h1.keep hx, h2.keep hx, hL, fun x hx' => (hok x hx').keep hx, z⟩
theorem many_any (t : Tb.Tab) (v : Value) (w : World) (hv : TbV w v t) (hb : TbB t) : Calls Tryz.prog 48 #[v] w fun e w' => e = .returned (.int .i64 (Tb.many t : Nat)) ∧ Ext w w' := by
  obtain ⟨A, c, B, d, L, rfl, h1, h2, hL, hok, z1, z2, hc⟩ := hv
  obtain ⟨n, hn⟩ : ∃ n, n = t.1.length := ⟨_, rfl⟩
  obtain ⟨m, hm⟩ : ∃ n, n = t.2.length := ⟨_, rfl⟩
  have bm := hb.m
  have XN := hid (Ext.new (ext_refl w) (.cells #[.slice A n c, .slice B m d] 25))
  rw [← hn, ← hm]
  have hLl : L.length = t.2.length := by rw [← hL, List.length_map]
  by_cases h0 : m = 0
  · have HV := hid (show Tb.many t = 0 by unfold Tb.many; rw [List.eq_nil_of_length_eq_zero (hm.symm.trans h0)]; rfl)
    subst h0
    clear h1 h2 hL hok z1 z2 hc hn hm hb bm hLl
    go_enter Tryz.func48, Tryz.ntmps48
    go_wp2
    go_returns
    exact ⟨by rw [HV.out]; rfl, XN.out⟩
  · have h0L : 0 < L.length := by omega
    obtain ⟨b2, o2, e2, l2, c2⟩ := h2.rows 0 h0L
    have r1 := c2 0 h0L
    rw [Nat.add_zero] at r1
    have HV := hid (show Tb.many t = L[0].1.2.1 by
      unfold Tb.many
      rw [← (hok _ (List.getElem_mem h0L)).1, List.getD_eq_getElem?_getD, ← hL, List.getElem?_map, List.getElem?_eq_getElem h0L]; rfl)
    generalize L[0].1.1 = A0 at *
    generalize L[0].1.2.1 = l0 at *
    generalize L[0].1.2.2 = c0 at *
    have e1 : ((m : Int) == 0) = false := by rw [beq_eq_false_iff_ne]; omega
    have hmI : (0 : Int) < (m : Int) := by omega
    have hmI2 : (m : Int) ≤ 140737488355328 := by omega
    have he2 := hid e2
    clear h1 h2 hL hok z1 z2 hc hn hm hb bm hLl h0 h0L c2 e2
    have e2 := he2.out
    subst e2
    go_enter Tryz.func48, Tryz.ntmps48
    go_wp2
    go_returns
    exact ⟨by rw [HV.out]; rfl, XN.out⟩
end Go.Proofs.YtolhifnlahllnaaGreatDoor
end
section
namespace Go.Proofs.YtolhifnlahllnaaGreatDoor
open Go.RowKit Hy
theorem TbV.shape {w : World} {v : Value} {t : Tb.Tab} (h : TbV w v t) : ∃ A n c B m d, v = .agg #[.slice A n c, .slice B m d] := by
  obtain ⟨A, c, B, d, L, e, _⟩ := h
  exact ⟨_, _, _, _, _, _, e⟩
theorem rows_any (t : Tb.Tab) (v : Value) (w : World) (hv : TbV w v t) (hb : TbB t) : Calls Tryz.prog 18 #[v] w fun e w' => e = .returned (.tuple #[.int .i64 ((if Tb.tbck t = 0 then Tb.many t else 0 : Nat) : Int), .int .i64 (Tb.tbck t : Nat)]) ∧ Ext w w' := by
  have HV := hid hv
  have HB := hid hb
  obtain ⟨A, n, c, B, m, d, rfl⟩ := hv.shape
  obtain ⟨E, hE⟩ : ∃ E, E = Tb.tbck t := ⟨_, rfl⟩
  obtain ⟨M, hM⟩ : ∃ M, M = Tb.many t := ⟨_, rfl⟩
  have XN := hid (Ext.new (ext_refl w) (.cells #[.slice A n c, .slice B m d] 25))
  have BN := hid (Blk.new w 25 #[.slice A n c, .slice B m d])
  have HC := hid (fun wx (hx : Ext w wx) => tcheck_any t _ wx (HV.out.keep hx) HB.out)
  have HY := hid (fun wx (hx : Ext w wx) => many_any t _ wx (HV.out.keep hx) HB.out)
  rw [← hE] at HC
  rw [← hM] at HY
  rw [← hE, ← hM]
  clear hv hb hE hM
  by_cases h0 : E = 0
  · subst h0
    rw [if_pos rfl]
    go_enter Tryz.func18, Tryz.ntmps18
    go_wp2_with fail
    refine Calls.mono (HC.out _ XN.out) ?_
    rintro e w1 ⟨rfl, hx⟩
    have X := hid (Ext.then XN.out hx)
    have B1 := hid (BN.out.keep hx)
    clear hx
    have p0 := B1.out.cell 0
    have p1 := B1.out.cell 1
    go_wp2_with fail
    refine Calls.mono (HY.out _ X.out) ?_
    rintro e w2 ⟨rfl, hx⟩
    replace X := hid (X.out.then hx)
    clear hx p0 p1
    go_wp2
    go_returns
    exact ⟨rfl, X.out⟩
  · rw [if_neg h0]
    have e2 : ((E : Int) != 0) = true := by simp; omega
    clear h0
    go_enter Tryz.func18, Tryz.ntmps18
    go_wp2_with fail
    refine Calls.mono (HC.out _ XN.out) ?_
    rintro e w1 ⟨rfl, hx⟩
    have X := hid (Ext.then XN.out hx)
    clear hx
    go_wp2
    go_returns
    exact ⟨rfl, X.out⟩
end Go.Proofs.YtolhifnlahllnaaGreatDoor
end
