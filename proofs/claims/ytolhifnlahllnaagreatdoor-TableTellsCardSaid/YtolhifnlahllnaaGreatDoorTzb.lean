/- Tables, the document: TableCheck, RowsOf, RowAt, KindsOf: walks (printed by gen_tzb.py). -/
import Derived.Test.YtolhifnlahllnaaGreatDoorTza
import Derived.Test.YtolhifnlahllnaaGreatDoorTbm
namespace Go.Proofs.YtolhifnlahllnaaGreatDoor
open Go.RowKit Hy
set_option maxHeartbeats 3200000 in
set_option maxRecDepth 100000 in
/-- the document's check of a table -/
theorem tabCheck_any (t : Tb.Tab) (v : Value) (w : World) (hv : TbV w v t) (hb : TbB t) : Calls Tryz.prog 23 #[v] w fun e w' => e = .returned (.int .i64 (Tb.tbck t : Nat)) ∧ Ext w w' := by
  obtain ⟨A, c, B, d, L, rfl, h1, h2, hL, hok, z1, z2, hc⟩ := hv
  obtain ⟨n, hn⟩ : ∃ n, n = t.1.length := ⟨_, rfl⟩
  obtain ⟨m, hm⟩ : ∃ n, n = t.2.length := ⟨_, rfl⟩
  have bn := hb.n; have bm := hb.m
  have hc' := hc
  rw [← hn] at hc'
  have HN := hid hn; have HM := hid hm
  have XN := hid (Ext.new (ext_refl w) (.cells #[.slice A n c, .slice B m d] 25))
  have BN := hid (Blk.new w 25 #[.slice A n c, .slice B m d])
  rw [← hn, ← hm]
  by_cases h6 : 6 < t.1.length
  · have HV := hid (Tb.tbck_many h6)
    have hnI : (6 : Int) < (n : Int) := by omega
    clear h1 h2 hL hok z1 z2 hc hc' hn hm hb bn bm h6
    go_enter Tryz.func23, Tryz.ntmps23
    go_wp2
    go_returns
    exact ⟨by rw [HV.out]; rfl, XN.out⟩
  · by_cases hnm : t.1.length = t.2.length
    · obtain rfl : n = m := by omega
      obtain ⟨R, hR⟩ : ∃ R, R = Tb.tbck t := ⟨_, rfl⟩
      rw [← hR]
      have HR := hid (show R = Tb.tbr (Tb.many t) (t.1.take 0) (t.1.drop 0) (t.2.drop 0) from hR.trans (Tb.tbck_go h6 hnm))
      have HA := hid h1; have HB := hid h2; have HLM := hid hL; have HOK := hid hok
      have HSZ := hid hb.s; have HDZ := hid hb.d
      have HC' := hid hc'
      have hnI : (n : Int) ≤ 6 := by omega
      have HN6 := hid (show n ≤ 6 by omega)
      clear h1 h2 hL hok z1 z2 hc hc' hn hm hb bn bm h6 hnm hR
      go_enter Tryz.func23, Tryz.ntmps23
      go_upto_region 1 with fail
      refine wp_gen (fun w' => Ext w w' ∧ Blk w' w.heap.size 25 #[.slice A n c, .slice B n d]) ⟨XN.out, BN.out⟩ ?_
      rintro wz ⟨B0, B1⟩
      have XZ := hid B0
      have F1 := hid B1
      have p0 := B1.cell 0
      have p1 := B1.cell 1
      clear B0 B1 XN BN
      go_wp2
      go_loopw [3, 4] (fun i _ wr => ∃ k : Nat, k ≤ n ∧ i = .int .i64 k ∧ Hid (R = Tb.tbr (Tb.many t) (t.1.take k) (t.1.drop k) (t.2.drop k)) ∧ Hid (Ext wz wr)) (fun i _ _ => n - (intOf i).toNat)
      case atStart => exact ⟨0, Nat.zero_le _, rfl, HR, hid (ext_refl _)⟩
      case round =>
        obtain ⟨k, hk, rfl, HI, X⟩ := hrel
        have p0 := (F1.out.keep X.out).cell 0
        have p1 := (F1.out.keep X.out).cell 1
        by_cases hlt : k < n
        · have hka : k < t.1.length := by rw [← HN.out]; exact hlt
          have hkd : k < t.2.length := by rw [← HM.out]; exact hlt
          have hLl : L.length = t.2.length := by rw [← HLM.out, List.length_map]
          have hkL : k < L.length := by rw [hLl]; exact hkd
          have h0L : 0 < L.length := by omega
          have X0 : Hid (Ext w wr) := hid (XZ.out.then X.out)
          obtain ⟨b1, o1, e1, l1, c1⟩ := HA.out.ents k hka
          have d0 := ext_cell X0.out (c1 k hka).1
          have d1 := ext_cell X0.out (c1 k hka).2
          obtain ⟨b2, o2, e2, l2, c2⟩ := HB.out.rows k hkL
          have r0 := ext_cell X0.out (c2 k hkL)
          have r1 := ext_cell X0.out (c2 0 h0L)
          have hdk : t.2[k] = L[k].2 := by simp [← HLM.out]
          have hd0 : Tb.many t = L[0].1.2.1 := by
            unfold Tb.many
            rw [← (HOK.out _ (List.getElem_mem h0L)).1, List.getD_eq_getElem?_getD, ← HLM.out, List.getElem?_map, List.getElem?_eq_getElem h0L]; rfl
          obtain ⟨w1, w2, w3, w4⟩ := HOK.out _ (List.getElem_mem hkL)
          have hI := HI.out
          rw [Tb.tbr_step hka hkd, hdk, hd0, w1] at hI
          have HC1 := hid (fun wx (hx : Ext w wx) => oneCol_any t.1[k].1 t.1[k].2 (t.1.take k) A k c wx (by rw [List.length_take]; omega) ((Rd.take (f := ent2) HA.out k).keep hx) (by omega) (HSZ.out _ (List.getElem_mem hka)))
          have HC2 := hid (fun wx (hx : Ext w wx) => columnCheck_any t.1[k].2 L[k].2 L[k].1.1 L[k].1.2.1 L[k].1.2.2 wx w1 (w4.keep hx) (by rw [← w1, ← hdk]; exact HDZ.out _ (List.getElem_mem hkd)))
          have sl1 := sl_to (P := Tryz.prog) (t := 22) (m := 2) Tryz.underlying22 (by kernel_rfl) A n c .i64 k (by have := HC'.out; omega)
          have hkI : (k : Int) < (n : Int) := by omega
          have h0I : (0 : Int) < (n : Int) := by omega
          have hE1 := Tb.colck_le t.1[k] (t.1.take k)
          have hE2 := Tb.ccol_le t.1[k].2 L[k].2
          generalize Tb.colck t.1[k] (t.1.take k) = E1 at *
          generalize Tb.ccol t.1[k].2 L[k].2 = E2 at *
          have HMD := hid hd0
          clear hd0 hdk w1 w2 w3 w4 c1 c2 l1 l2
          generalize t.1[k].1 = s at *
          generalize t.1[k].2 = y at *
          generalize L[k].1.1 = Ak at *
          generalize L[k].1.2.1 = lk at *
          generalize L[k].1.2.2 = ck at *
          generalize L[0].1.1 = A0 at *
          generalize L[0].1.2.1 = l0 at *
          generalize L[0].1.2.2 = c0 at *
          rw [Nat.add_zero] at r1
          have he1 := hid e1; have he2 := hid e2
          clear hka hkd hLl hkL h0L e1 e2
          have e1 := he1.out
          have e2 := he2.out
          subst e1 e2
          have p0r := cell_regrown p0
          have p1r := cell_regrown p1
          have d0r := cell_regrown d0
          have d1r := cell_regrown d1
          have r0r := cell_regrown r0
          have r1r := cell_regrown r1
          have E0 : ((E1 : Int) == 0) = decide (E1 = 0) := by rw [Bool.eq_iff_iff, beq_iff_eq, decide_eq_true_eq]; omega
          by_cases h1 : E1 = 0
          · subst h1
            rw [if_neg (by simp)] at hI
            by_cases h2 : E2 = 0
            · subst h2
              rw [if_neg (by simp)] at hI
              by_cases h3 : lk = l0
              · subst h3
                rw [if_neg (by simp)] at hI
                have HI2 := hid hI
                clear hI hE1 hE2 E0
                go_upto_region 8 with fail
                refine wp_region_walk [(0, true), (1, true), (2, true), (3, true), (4, true), (5, true), (6, true), (7, true), (8, true), (9, false), (10, true)] (by kernel_rfl) (by kernel_rfl) (fun _ _ _ _ _ h => h) (by kernel_rfl) (by rfl) ?_
                simp only [List.filterMap_cons, List.filterMap_nil, List.getElem?_toArray, List.getElem?_cons_zero, List.getElem?_cons_succ, Option.map_some]
                repeat (refine wpM_val (by rfl) ?_; intro K hK; go_big_quiet_op; go_big_quiet_on)
                refine wpM_do (by rfl) ?_
                intro K hK
                go_simp
                refine Calls.mono (HC1.out _ (Ext.then X0.out (Ext.draw (ext_refl wr)))) ?_
                rintro e y1 ⟨rfl, hx⟩
                have XA := hid (Ext.then (Ext.draw (ext_refl wr)) hx)
                refine hK _ _ XA.out ?_
                clear K hK hx
                repeat (refine wpM_val (by rfl) ?_; intro K hK; go_big_quiet_op; go_big_quiet_on)
                refine wpM_nil ?_
                replace p0 := ext_cell XA.out p0
                replace p1 := ext_cell XA.out p1
                replace d0 := ext_cell XA.out d0
                replace d1 := ext_cell XA.out d1
                replace r0 := ext_cell XA.out r0
                replace r1 := ext_cell XA.out r1
                clear p0r p1r d0r d1r r0r r1r
                have XW := hid (X0.out.then XA.out)
                have p0r := cell_regrown p0
                have p1r := cell_regrown p1
                have d0r := cell_regrown d0
                have d1r := cell_regrown d1
                have r0r := cell_regrown r0
                have r1r := cell_regrown r1
                go_upto_region 10 with fail
                refine wp_region_walk [(0, true), (1, true), (2, true), (3, true), (4, true), (5, true), (6, true), (7, true), (8, true), (9, true), (10, true), (11, false), (12, true)] (by kernel_rfl) (by kernel_rfl) (fun _ _ _ _ _ h => h) (by kernel_rfl) (by rfl) ?_
                simp only [List.filterMap_cons, List.filterMap_nil, List.getElem?_toArray, List.getElem?_cons_zero, List.getElem?_cons_succ, Option.map_some]
                repeat (refine wpM_val (by rfl) ?_; intro K hK; go_big_quiet_op; go_big_quiet_on)
                refine wpM_do (by rfl) ?_
                intro K hK
                go_simp
                refine Calls.mono (HC2.out _ (Ext.then XW.out (Ext.draw (ext_refl y1)))) ?_
                rintro e y2 ⟨rfl, hx⟩
                have XB := hid (Ext.then (Ext.draw (ext_refl y1)) hx)
                refine hK _ _ XB.out ?_
                clear K hK hx
                repeat (refine wpM_val (by rfl) ?_; intro K hK; go_big_quiet_op; go_big_quiet_on)
                refine wpM_nil ?_
                replace p0 := ext_cell XB.out p0
                replace p1 := ext_cell XB.out p1
                replace d0 := ext_cell XB.out d0
                replace d1 := ext_cell XB.out d1
                replace r0 := ext_cell XB.out r0
                replace r1 := ext_cell XB.out r1
                clear p0r p1r d0r d1r r0r r1r
                have XW2 := hid (XW.out.then XB.out)
                go_wp2_with fail
                go_quiet (fail)
                go_wp2
                go_roundw
                case rel => exact ⟨k + 1, by omega, by go_num, by rw [HMD.out]; exact HI2, hid (((X.out.then XA.out).then XB.out).draws _)⟩
                case measure => simp [intOf] <;> omega
              · rw [if_pos h3] at hI
                have HI2 := hid hI
                have e5 : ((lk : Int) == (l0 : Int)) = false := by rw [beq_eq_false_iff_ne]; omega
                have e6 : ((lk : Int) != (l0 : Int)) = true := by rw [bne_iff_ne]; omega
                clear hI hE1 hE2 h3 E0
                go_upto_region 8 with fail
                refine wp_region_walk [(0, true), (1, true), (2, true), (3, true), (4, true), (5, true), (6, true), (7, true), (8, true), (9, false), (10, true)] (by kernel_rfl) (by kernel_rfl) (fun _ _ _ _ _ h => h) (by kernel_rfl) (by rfl) ?_
                simp only [List.filterMap_cons, List.filterMap_nil, List.getElem?_toArray, List.getElem?_cons_zero, List.getElem?_cons_succ, Option.map_some]
                repeat (refine wpM_val (by rfl) ?_; intro K hK; go_big_quiet_op; go_big_quiet_on)
                refine wpM_do (by rfl) ?_
                intro K hK
                go_simp
                refine Calls.mono (HC1.out _ (Ext.then X0.out (Ext.draw (ext_refl wr)))) ?_
                rintro e y1 ⟨rfl, hx⟩
                have XA := hid (Ext.then (Ext.draw (ext_refl wr)) hx)
                refine hK _ _ XA.out ?_
                clear K hK hx
                repeat (refine wpM_val (by rfl) ?_; intro K hK; go_big_quiet_op; go_big_quiet_on)
                refine wpM_nil ?_
                replace p0 := ext_cell XA.out p0
                replace p1 := ext_cell XA.out p1
                replace d0 := ext_cell XA.out d0
                replace d1 := ext_cell XA.out d1
                replace r0 := ext_cell XA.out r0
                replace r1 := ext_cell XA.out r1
                clear p0r p1r d0r d1r r0r r1r
                have XW := hid (X0.out.then XA.out)
                have p0r := cell_regrown p0
                have p1r := cell_regrown p1
                have d0r := cell_regrown d0
                have d1r := cell_regrown d1
                have r0r := cell_regrown r0
                have r1r := cell_regrown r1
                go_upto_region 10 with fail
                refine wp_region_walk [(0, true), (1, true), (2, true), (3, true), (4, true), (5, true), (6, true), (7, true), (8, true), (9, true), (10, true), (11, false), (12, true)] (by kernel_rfl) (by kernel_rfl) (fun _ _ _ _ _ h => h) (by kernel_rfl) (by rfl) ?_
                simp only [List.filterMap_cons, List.filterMap_nil, List.getElem?_toArray, List.getElem?_cons_zero, List.getElem?_cons_succ, Option.map_some]
                repeat (refine wpM_val (by rfl) ?_; intro K hK; go_big_quiet_op; go_big_quiet_on)
                refine wpM_do (by rfl) ?_
                intro K hK
                go_simp
                refine Calls.mono (HC2.out _ (Ext.then XW.out (Ext.draw (ext_refl y1)))) ?_
                rintro e y2 ⟨rfl, hx⟩
                have XB := hid (Ext.then (Ext.draw (ext_refl y1)) hx)
                refine hK _ _ XB.out ?_
                clear K hK hx
                repeat (refine wpM_val (by rfl) ?_; intro K hK; go_big_quiet_op; go_big_quiet_on)
                refine wpM_nil ?_
                replace p0 := ext_cell XB.out p0
                replace p1 := ext_cell XB.out p1
                replace d0 := ext_cell XB.out d0
                replace d1 := ext_cell XB.out d1
                replace r0 := ext_cell XB.out r0
                replace r1 := ext_cell XB.out r1
                clear p0r p1r d0r d1r r0r r1r
                have XW2 := hid (XW.out.then XB.out)
                go_wp2_with fail
                go_quiet (fail)
                go_wp2
                go_returns
                exact ⟨by rw [HI2.out]; rfl, XW2.out.draws _⟩
            · rw [if_pos h2] at hI
              have HI2 := hid hI
              have e5 : ((E2 : Int) == 0) = false := beq_eq_false_iff_ne.2 (by omega)
              have e6 : ((E2 : Int) != 0) = true := by simp; omega
              clear hI hE1 hE2 h2 E0
              go_upto_region 8 with fail
              refine wp_region_walk [(0, true), (1, true), (2, true), (3, true), (4, true), (5, true), (6, true), (7, true), (8, true), (9, false), (10, true)] (by kernel_rfl) (by kernel_rfl) (fun _ _ _ _ _ h => h) (by kernel_rfl) (by rfl) ?_
              simp only [List.filterMap_cons, List.filterMap_nil, List.getElem?_toArray, List.getElem?_cons_zero, List.getElem?_cons_succ, Option.map_some]
              repeat (refine wpM_val (by rfl) ?_; intro K hK; go_big_quiet_op; go_big_quiet_on)
              refine wpM_do (by rfl) ?_
              intro K hK
              go_simp
              refine Calls.mono (HC1.out _ (Ext.then X0.out (Ext.draw (ext_refl wr)))) ?_
              rintro e y1 ⟨rfl, hx⟩
              have XA := hid (Ext.then (Ext.draw (ext_refl wr)) hx)
              refine hK _ _ XA.out ?_
              clear K hK hx
              repeat (refine wpM_val (by rfl) ?_; intro K hK; go_big_quiet_op; go_big_quiet_on)
              refine wpM_nil ?_
              replace p0 := ext_cell XA.out p0
              replace p1 := ext_cell XA.out p1
              replace d0 := ext_cell XA.out d0
              replace d1 := ext_cell XA.out d1
              replace r0 := ext_cell XA.out r0
              replace r1 := ext_cell XA.out r1
              clear p0r p1r d0r d1r r0r r1r
              have XW := hid (X0.out.then XA.out)
              have p0r := cell_regrown p0
              have p1r := cell_regrown p1
              have d0r := cell_regrown d0
              have d1r := cell_regrown d1
              have r0r := cell_regrown r0
              have r1r := cell_regrown r1
              go_upto_region 10 with fail
              refine wp_region_walk [(0, true), (1, true), (2, true), (3, true), (4, true), (5, true), (6, true), (7, true), (8, true), (9, true), (10, true), (11, false), (12, true)] (by kernel_rfl) (by kernel_rfl) (fun _ _ _ _ _ h => h) (by kernel_rfl) (by rfl) ?_
              simp only [List.filterMap_cons, List.filterMap_nil, List.getElem?_toArray, List.getElem?_cons_zero, List.getElem?_cons_succ, Option.map_some]
              repeat (refine wpM_val (by rfl) ?_; intro K hK; go_big_quiet_op; go_big_quiet_on)
              refine wpM_do (by rfl) ?_
              intro K hK
              go_simp
              refine Calls.mono (HC2.out _ (Ext.then XW.out (Ext.draw (ext_refl y1)))) ?_
              rintro e y2 ⟨rfl, hx⟩
              have XB := hid (Ext.then (Ext.draw (ext_refl y1)) hx)
              refine hK _ _ XB.out ?_
              clear K hK hx
              repeat (refine wpM_val (by rfl) ?_; intro K hK; go_big_quiet_op; go_big_quiet_on)
              refine wpM_nil ?_
              replace p0 := ext_cell XB.out p0
              replace p1 := ext_cell XB.out p1
              replace d0 := ext_cell XB.out d0
              replace d1 := ext_cell XB.out d1
              replace r0 := ext_cell XB.out r0
              replace r1 := ext_cell XB.out r1
              clear p0r p1r d0r d1r r0r r1r
              have XW2 := hid (XW.out.then XB.out)
              go_wp2
              go_returns
              exact ⟨by rw [HI2.out]; rfl, XW2.out⟩
          · rw [if_pos h1] at hI
            have HI2 := hid hI
            have e5 : ((E1 : Int) == 0) = false := beq_eq_false_iff_ne.2 (by omega)
            have e6 : ((E1 : Int) != 0) = true := by simp; omega
            clear hI hE1 hE2 h1 E0
            go_upto_region 8 with fail
            refine wp_region_walk [(0, true), (1, true), (2, true), (3, true), (4, true), (5, true), (6, true), (7, true), (8, true), (9, false), (10, true)] (by kernel_rfl) (by kernel_rfl) (fun _ _ _ _ _ h => h) (by kernel_rfl) (by rfl) ?_
            simp only [List.filterMap_cons, List.filterMap_nil, List.getElem?_toArray, List.getElem?_cons_zero, List.getElem?_cons_succ, Option.map_some]
            repeat (refine wpM_val (by rfl) ?_; intro K hK; go_big_quiet_op; go_big_quiet_on)
            refine wpM_do (by rfl) ?_
            intro K hK
            go_simp
            refine Calls.mono (HC1.out _ (Ext.then X0.out (Ext.draw (ext_refl wr)))) ?_
            rintro e y1 ⟨rfl, hx⟩
            have XA := hid (Ext.then (Ext.draw (ext_refl wr)) hx)
            refine hK _ _ XA.out ?_
            clear K hK hx
            repeat (refine wpM_val (by rfl) ?_; intro K hK; go_big_quiet_op; go_big_quiet_on)
            refine wpM_nil ?_
            replace p0 := ext_cell XA.out p0
            replace p1 := ext_cell XA.out p1
            replace d0 := ext_cell XA.out d0
            replace d1 := ext_cell XA.out d1
            replace r0 := ext_cell XA.out r0
            replace r1 := ext_cell XA.out r1
            clear p0r p1r d0r d1r r0r r1r
            have XW := hid (X0.out.then XA.out)
            have p0r := cell_regrown p0
            have p1r := cell_regrown p1
            have d0r := cell_regrown d0
            have d1r := cell_regrown d1
            have r0r := cell_regrown r0
            have r1r := cell_regrown r1
            go_wp2
            go_returns
            exact ⟨by rw [HI2.out]; rfl, XW.out⟩
        · obtain rfl : k = n := by omega
          have HE := hid (show R = 0 by rw [HI.out, List.drop_of_length_le (by rw [← HN.out]; exact Nat.le_refl _)]; rfl)
          clear hlt HI
          go_wp2
          go_returns
          exact ⟨by rw [HE.out]; rfl, XZ.out.then X.out⟩
    · have HV := hid (Tb.tbck_form h6 hnm)
      have hnI : (n : Int) ≤ 6 := by omega
      have e1 : ((m : Int) == (n : Int)) = false := by rw [beq_eq_false_iff_ne]; omega
      have e2 : ((m : Int) != (n : Int)) = true := by rw [bne_iff_ne]; omega
      clear h1 h2 hL hok z1 z2 hc hc' hn hm hb bn bm h6 hnm
      go_enter Tryz.func23, Tryz.ntmps23
      go_wp2
      go_returns
      exact ⟨by rw [HV.out]; rfl, XN.out⟩
set_option maxHeartbeats 800000 in
/-- the document's count of rows -/
theorem rowsOf_any (t : Tb.Tab) (v : Value) (w : World) (hv : TbV w v t) (hb : TbB t) : Calls Tryz.prog 24 #[v] w fun e w' => e = .returned (.int .i64 (Tb.many t : Nat)) ∧ Ext w w' := by
  obtain ⟨A, c, B, d, L, rfl, h1, h2, hL, hok, z1, z2, hc⟩ := hv
  obtain ⟨n, hn⟩ : ∃ n, n = t.1.length := ⟨_, rfl⟩
  obtain ⟨m, hm⟩ : ∃ n, n = t.2.length := ⟨_, rfl⟩
  have bm := hb.m
  have XN := hid (Ext.new (ext_refl w) (.cells #[.slice A n c, .slice B m d] 25))
  rw [← hn, ← hm]
  have hLl : L.length = t.2.length := by rw [← hL, List.length_map]
  by_cases h0 : m = 0
  · have HV := hid (show Tb.many t = 0 by unfold Tb.many; rw [List.eq_nil_of_length_eq_zero (hm.symm.trans h0)]; rfl)
    subst h0
    clear h1 h2 hL hok z1 z2 hc hn hm hb bm hLl
    go_enter Tryz.func24, Tryz.ntmps24
    go_wp2
    go_returns
    exact ⟨by rw [HV.out]; rfl, XN.out⟩
  · have h0L : 0 < L.length := by omega
    obtain ⟨b2, o2, e2, l2, c2⟩ := h2.rows 0 h0L
    have r1 := c2 0 h0L
    rw [Nat.add_zero] at r1
    have HV := hid (show Tb.many t = L[0].1.2.1 by
      unfold Tb.many
      rw [← (hok _ (List.getElem_mem h0L)).1, List.getD_eq_getElem?_getD, ← hL, List.getElem?_map, List.getElem?_eq_getElem h0L]; rfl)
    generalize L[0].1.1 = A0 at *
    generalize L[0].1.2.1 = l0 at *
    generalize L[0].1.2.2 = c0 at *
    have e1 : ((m : Int) == 0) = false := by rw [beq_eq_false_iff_ne]; omega
    have hmI : (0 : Int) < (m : Int) := by omega
    have hmI2 : (m : Int) ≤ 140737488355328 := by omega
    have he2 := hid e2
    clear h1 h2 hL hok z1 z2 hc hn hm hb bm hLl h0 h0L c2 e2
    have e2 := he2.out
    subst e2
    go_enter Tryz.func24, Tryz.ntmps24
    go_wp2
    go_returns
    exact ⟨by rw [HV.out]; rfl, XN.out⟩
set_option maxHeartbeats 1600000 in
set_option maxRecDepth 100000 in
/-- the document's row -/
theorem rowAt_any (t : Tb.Tab) (i : Nat) (v : Value) (w : World) (hv : TbV w v t) (hm : t.2.length ≤ 1000) (hi : ∀ l ∈ t.2, i < l.length) (hb : ∀ l ∈ t.2, l.length ≤ 1000) :
    Calls Tryz.prog 25 #[v, .int .i64 (i : Int)] w fun e w' => ∃ v', e = .returned v' ∧ w'.ownsRow w.heap.size 42 3 v' t.2.length (cls (Tb.rowAt t.2 i)) ∧ Ext w w' := by
  obtain ⟨A, c, B, d, L, rfl, h1, h2, hL, hok, z1, z2, hc⟩ := hv
  obtain ⟨n, hn⟩ : ∃ n, n = t.1.length := ⟨_, rfl⟩
  obtain ⟨m, hm'⟩ : ∃ n, n = t.2.length := ⟨_, rfl⟩
  rw [← hn, ← hm']
  have HM := hid hm'; have HLM := hid hL; have HOK := hid hok; have HB := hid h2; have HI := hid hi; have HBD := hid hb
  have hmI : (m : Int) ≤ 1000 := by omega
  have HML := hid (show m ≤ 1000 by omega)
  have XN := hid (Ext.new (ext_refl w) (.cells #[.slice A n c, .slice B m d] 25))
  have BN := hid (Blk.new w 25 #[.slice A n c, .slice B m d])
  clear h1 h2 hL hok z1 z2 hc hn hm hm' hi hb
  go_enter Tryz.func25, Tryz.ntmps25
  go_upto_region 1 with fail
  refine wp_gen (fun w' => Ext w w' ∧ Blk w' w.heap.size 25 #[.slice A n c, .slice B m d]) ⟨XN.out, BN.out⟩ ?_
  rintro wz ⟨x0, x1⟩
  have XZ := hid x0
  have BZ := hid x1
  clear x0 x1 XN BN
  go_wp2
  go_loopw [5, 6] (fun o ii wr => ∃ k : Nat, k ≤ m ∧ ii = .int .i64 k ∧ Hid (wr.ownsRow wz.heap.size 42 3 o k (cls (Tb.rowAt (t.2.take k) i))) ∧ Hid (Ext wz wr)) (fun _ ii _ => m - (intOf ii).toNat)
  case atStart => exact ⟨0, Nat.zero_le _, rfl, hid (World.ownsRow_nil _ _ _ _), hid (ext_refl _)⟩
  case round =>
    obtain ⟨k, hk, rfl, HO, HXZ⟩ := hrel
    have HX := hid (XZ.out.then HXZ.out)
    have p0 := (BZ.out.keep HXZ.out).cell 0
    have p1 := (BZ.out.keep HXZ.out).cell 1
    by_cases hlt : k < m
    · have hkd : k < t.2.length := by rw [← HM.out]; exact hlt
      have hLl : L.length = t.2.length := by rw [← HLM.out, List.length_map]
      have hkL : k < L.length := by rw [hLl]; exact hkd
      obtain ⟨b2, o2, e2, l2, c2⟩ := HB.out.rows k hkL
      have r0 := ext_cell HX.out (c2 k hkL)
      have hdk : L[k].2 = t.2[k] := by simp [← HLM.out]
      obtain ⟨w1, w2, w3, w4⟩ := HOK.out _ (List.getElem_mem hkL)
      have hil := HI.out _ (List.getElem_mem hkd)
      have hbl := HBD.out _ (List.getElem_mem hkd)
      obtain ⟨b3, o3, e3, l3, c3⟩ := w4.cels i (by rw [hdk]; exact hil)
      obtain ⟨q0, q1, q2⟩ := c3 i (by rw [hdk]; exact hil)
      replace q0 := ext_cell HX.out q0
      replace q1 := ext_cell HX.out q1
      replace q2 := ext_cell HX.out q2
      have HSN := hid (Tb.row_succ hkd hil)
      have hiI : (i : Int) < (L[k].1.2.1 : Int) := by rw [← w1, hdk]; omega
      have hxx : L[k].2[i]'(by rw [hdk]; exact hil) = t.2[k][i] := by simp [hdk]
      rw [hxx] at q0 q1 q2
      have HSW := hid HXZ.out.size
      have hlI : (L[k].1.2.1 : Int) ≤ 1000 := by rw [← w1, hdk]; omega
      clear c2 c3 w1 w2 w3 w4 hdk l2 l3 hxx hbl
      generalize t.2[k][i] = x at *
      generalize L[k].1.1 = Ak at *
      generalize L[k].1.2.1 = lk at *
      generalize L[k].1.2.2 = ck at *
      have he2 := hid e2; have he3 := hid e3
      clear hkd hLl hkL hil e2 e3
      have e2 := he2.out
      have e3 := he3.out
      subst e2 e3
      obtain ⟨y, z, s⟩ := x
      simp only at q0 q1 q2
      obtain ⟨K0, hK0⟩ : ∃ K, K = Tb.rowAt (t.2.take k) i := ⟨_, rfl⟩
      rw [← hK0] at HO HSN
      clear hK0
      go_wp2_with (at_builtin; go_loud (refine wpList_app rfl (.tmp 14) (.tmp 23) rowCe rfl _ k (cls K0) rfl (own_ext HO.out (Ext.new (ext_refl _) _)) _ 1 (cls [(y, z, s)]) rfl (Src.rd Tryz.underlying45 _ 1 1 _ rfl (rd_lit rfl rfl) (cls_one _) (fun h => by cases h)) (by have := HML.out; simp only [maxLen] at *; omega) (by have := HML.out; omega) (by have := HSW.out; simp; omega) ?_; intro v' w9 hown9 hgrow hat hbel; have HO9 := hid hown9; have XB9 := hid (Below.trans (Below.mono (Ext.new (ext_refl wr) (.cells #[.int .i64 y, .int .u64 (z : Nat), .string s] 42)) HSW.out) hbel); clear hown9 hgrow hat hbel))
      go_roundw
      case rel => exact ⟨k + 1, by omega, by go_num, by rw [HSN.out, cls_app]; exact HO9, hid (Below.trans HXZ.out XB9.out)⟩
      case measure => simp [intOf]; omega
    · obtain rfl : m = k := by omega
      have HL : t.2.take m = t.2 := List.take_of_length_le (by rw [← HM.out]; exact Nat.le_refl _)
      rw [HL] at HO
      clear HL
      go_wp2
      go_returns
      exact ⟨_, rfl, own_low' HO.out XZ.out.size, HX.out⟩
set_option maxHeartbeats 1600000 in
set_option maxRecDepth 100000 in
/-- the document's kinds -/
theorem kindsOf_any (l : List Ent) (A : Option Addr) (n cap : Nat) (w : World) (hn : l.length = n) (hr : Rd w A (ens l)) (hnl : n ≤ 1000) :
    Calls Tryz.prog 33 #[.slice A n cap] w fun e w' => ∃ v, e = .returned v ∧ w'.ownsRow w.heap.size 3 1 v n (i64s (Tb.knds l)) ∧ Ext w w' := by
  have HN := hid hn
  have HA := hid hr
  have HNL := hid hnl
  have hnI : (n : Int) ≤ 1000 := by omega
  clear hn hr hnl
  go_enter Tryz.func33, Tryz.ntmps33
  go_wp2
  go_loopw [3, 4] (fun vn c wr => ∃ k : Nat, k ≤ n ∧ c = .int .i64 k ∧ Hid (wr.ownsRow w.heap.size 3 1 vn k (i64s (Tb.knds (l.take k)))) ∧ Hid (Ext w wr)) (fun _ c _ => n - (intOf c).toNat)
  case atStart => exact ⟨0, Nat.zero_le _, rfl, hid (World.ownsRow_nil _ _ _ _), hid (ext_refl _)⟩
  case round =>
    obtain ⟨k, hk, rfl, HO, HX⟩ := hrel
    by_cases hlt : k < n
    · have hka : k < l.length := by rw [HN.out]; exact hlt
      obtain ⟨b1, o1, e1, l1, c1⟩ := HA.out.ents k hka
      subst e1
      have d0 := ext_cell HX.out (c1 k hka).1
      have d1 := ext_cell HX.out (c1 k hka).2
      have HSN := hid (Tb.knds_succ hka)
      have HSW := hid HX.out.size
      obtain ⟨K0, hK0⟩ : ∃ K, K = Tb.knds (l.take k) := ⟨_, rfl⟩
      rw [← hK0] at HO HSN
      clear c1 l1 hK0
      generalize l[k] = x at *
      obtain ⟨t, y⟩ := x
      simp only at d0 d1 HSN
      clear hka
      go_wp2_with (at_builtin; go_loud (refine wpList_app rfl (.tmp 11) (.tmp 17) rowI rfl _ k (i64s K0) rfl (own_ext HO.out (Ext.new (ext_refl _) _)) _ 1 (i64s [y]) rfl (Src.rd Tryz.underlying60 _ 1 1 _ rfl (rd_lit (by simp) rfl) (i64s_one _) (fun h => by cases h)) (by have := HNL.out; simp only [maxLen] at *; omega) (by have := HNL.out; omega) (by have := HSW.out; simp; omega) ?_; intro v' w9 hown9 hgrow hat hbel; have HO9 := hid hown9; have XB9 := hid (Below.trans (Below.mono (Ext.new (ext_refl wr) (.cells #[.int .i64 y] 3)) HSW.out) hbel); clear hown9 hgrow hat hbel))
      go_roundw
      case rel => exact ⟨k + 1, by omega, by go_num, by rw [HSN.out, i64s_app]; exact HO9, hid (Below.trans HX.out XB9.out)⟩
      case measure => simp [intOf]; omega
    · obtain rfl : n = k := by omega
      have HL : l.take n = l := List.take_of_length_le (by rw [HN.out]; exact Nat.le_refl _)
      rw [HL] at HO
      clear HL
      go_wp2
      go_returns
      exact ⟨_, rfl, HO.out, HX.out⟩
end Go.Proofs.YtolhifnlahllnaaGreatDoor
