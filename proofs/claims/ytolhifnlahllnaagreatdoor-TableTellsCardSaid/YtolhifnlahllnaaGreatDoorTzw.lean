/- TableTells: walk (printed by gen_tzw.py). -/
import Derived.Test.YtolhifnlahllnaaGreatDoorTzj
import Derived.Test.YtolhifnlahllnaaGreatDoorTzg
import Derived.Test.YtolhifnlahllnaaGreatDoorTzq
namespace Go.Proofs.YtolhifnlahllnaaGreatDoor
open Go.RowKit Hy
theorem TbV.V {w : World} {v : Value} {t : Tb.Tab} (h : TbV w v t) : TbV w v t := h
theorem res_B {E : Nat} {T : Tb.Tab} (h : E = 0 → TbB T) : TbB (Tb.res E T) := by
  by_cases h0 : E = 0
  · rw [h0, Tb.res_ok]; exact h h0
  · rw [Tb.res_no h0]; exact ⟨by decide, by decide, fun x hx => absurd hx List.not_mem_nil, fun x hx => absurd hx List.not_mem_nil⟩
theorem drop_B {t : Tb.Tab} {s : ByteArray} (h : TbB t) : TbB (Tb.dropT t s) :=
  ⟨Nat.le_trans (List.length_eraseIdx_le _ _) h.n, Nat.le_trans (List.length_eraseIdx_le _ _) h.m, fun x hx => h.s x (List.mem_of_mem_eraseIdx hx), fun x hx => h.d x (List.mem_of_mem_eraseIdx hx)⟩
abbrev TRl (f : Nat) (args : Array Value) (w : World) (E : Int) (T : Tb.Tab) : Prop := Calls Tryz.prog f args w fun e w' => ∃ v', e = .returned (.tuple #[v', .int .i64 E]) ∧ TbL w' w.heap.size v' T ∧ Ext w w'
abbrev TRv (f : Nat) (args : Array Value) (w : World) (E : Int) (T : Tb.Tab) : Prop := Calls Tryz.prog f args w fun e w' => ∃ v', e = .returned (.tuple #[v', .int .i64 E]) ∧ TbV w' v' T ∧ Ext w w'
set_option maxHeartbeats 25600000 in
set_option maxRecDepth 100000 in
theorem tableTells_any (t : Tb.Tab) (cs : ByteArray) (ck xk : Int) (xn : Nat) (xs nm : ByteArray) (x : Int) (v : Value) (w : World) (hv : TbV w v t) (hb : TbB t) (hsc : cs.size ≤ 140737488355328) (hsn : nm.size ≤ 140737488355328) :
    Calls Tryz.prog 4 #[v, .agg #[.string cs, .int .i64 ck], .agg #[.int .i64 xk, .int .u64 (xn : Nat), .string xs], .string nm, .int .i64 x] w fun e w' => e = .returned (.bool true) ∧ Ext w w' := by
  have HB := hid hb
  obtain ⟨A, n, c, B, m, d, rfl⟩ := hv.shape
  have HV0 := hid hv
  obtain ⟨E1, hE1⟩ : ∃ E, E = Tb.addE t (cs, ck) (xk, xn, xs) := ⟨_, rfl⟩
  obtain ⟨T1, hT1⟩ : ∃ T, T = Tb.res (Tb.addE t (cs, ck) (xk, xn, xs)) (Tb.addT t (cs, ck) (xk, xn, xs)) := ⟨_, rfl⟩
  have HA1 := hid (fun v wx (hx : TbV wx v t)  => show TRl 20 #[v, .agg #[.string cs, .int .i64 ck], .agg #[.int .i64 xk, .int .u64 (xn : Nat), .string xs]] wx (E1 : Nat) T1 from by
    have h := add_any t cs ck xk xn xs v wx hx hb hsc
    rw [← hT1, ← hE1] at h; exact h)
  have HD1 := hid (fun v wx (hx : TbV wx v t)  => show TRv 26 #[v, .agg #[.string cs, .int .i64 ck], .agg #[.int .i64 xk, .int .u64 (xn : Nat), .string xs]] wx (E1 : Nat) T1 from by
    have h := addOf_any t cs ck xk xn xs v wx hx hb hsc
    rw [← hT1, ← hE1] at h; exact h)
  have HB1 := hid (show TbB T1 from by rw [hT1]; exact res_B (fun h => Right.B (Tb.add_right h)))
  obtain ⟨E2, hE2⟩ : ∃ E, E = Tb.dropE t cs := ⟨_, rfl⟩
  obtain ⟨T2, hT2⟩ : ∃ T, T = Tb.res (Tb.dropE t cs) (Tb.dropT t cs) := ⟨_, rfl⟩
  have HA2 := hid (fun v wx (hx : TbV wx v t)  => show TRl 21 #[v, .string cs] wx (E2 : Nat) T2 from by
    have h := drop_any t cs v wx hx hb
    rw [← hT2, ← hE2] at h; exact h)
  have HD2 := hid (fun v wx (hx : TbV wx v t)  => show TRv 27 #[v, .string cs] wx (E2 : Nat) T2 from by
    have h := dropOf_any t cs v wx hx hb
    rw [← hT2, ← hE2] at h; exact h)
  have HB2 := hid (show TbB T2 from by rw [hT2]; exact res_B (fun _ => drop_B hb))
  obtain ⟨E3, hE3⟩ : ∃ E, E = Tb.renE t cs nm := ⟨_, rfl⟩
  obtain ⟨T3, hT3⟩ : ∃ T, T = Tb.res (Tb.renE t cs nm) (Tb.renT t cs nm) := ⟨_, rfl⟩
  have HA3 := hid (fun v wx (hx : TbV wx v t)  => show TRl 22 #[v, .string cs, .string nm] wx (E3 : Nat) T3 from by
    have h := ren_any t cs nm v wx hx hb hsn
    rw [← hT3, ← hE3] at h; exact h)
  have HD3 := hid (fun v wx (hx : TbV wx v t)  => show TRv 28 #[v, .string cs, .string nm] wx (E3 : Nat) T3 from by
    have h := renOf_any t cs nm v wx hx hb hsn
    rw [← hT3, ← hE3] at h; exact h)
  have HB3 := hid (show TbB T3 from by rw [hT3]; exact res_B (fun h => Right.B (Tb.ren_right h)))
  have HSM := hid (fun (T : Tb.Tab) (hb : TbB T) v u wx (h1 : TbV wx v T) (h2 : TbV wx u T) => show Calls Tryz.prog 17 #[v, u] wx fun e w' => e = .returned (.bool true) ∧ Ext wx w' from by
    have h := sameT_any T T v u wx h1 h2 hb
    rw [decide_eq_true rfl] at h; exact h)
  have HSC := hid (fun (l : List Cel) X Y (q : Nat) ca cb wx (hq : l.length = q) (hq6 : q ≤ 140737488355328) (h1 : Rd wx X (cls l)) (h2 : Rd wx Y (cls l)) => show Calls Tryz.prog 30 #[.slice X q ca, .slice Y q cb] wx fun e w' => e = .returned (.bool true) ∧ Ext wx w' from by
    have h := sameCells_any l l X Y q q ca cb wx hq hq h1 h2 hq6
    rw [decide_eq_true rfl] at h; exact h)
  obtain ⟨C, hC⟩ : ∃ C, C = Tb.tbck t := ⟨_, rfl⟩
  obtain ⟨M, hM⟩ : ∃ M, M = Tb.many t := ⟨_, rfl⟩
  obtain ⟨rows, hrows⟩ : ∃ r, r = (if C = 0 then M else 0 : Nat) := ⟨_, rfl⟩
  obtain ⟨E0, hE0⟩ : ∃ E, E = rowE t x := ⟨_, rfl⟩
  obtain ⟨row, hrow⟩ : ∃ l, l = rowL t x := ⟨_, rfl⟩
  obtain ⟨q, hq⟩ : ∃ q, q = row.length := ⟨_, rfl⟩
  have hR6 : C = 0 → t.2.length ≤ 6 ∧ (∀ l ∈ t.2, l.length = Tb.many t) ∧ Tb.many t ≤ 128 := fun h => by
    have hr := (Tb.right_iff t).1 (hC.symm.trans h)
    exact ⟨by rw [← hr.len]; exact hr.six, hr.row, hr.lim⟩
  have HRS := hid (fun v wx (hx : TbV wx v t) => show Calls Tryz.prog 18 #[v] wx fun e w' => e = .returned (.tuple #[.int .i64 (rows : Int), .int .i64 (C : Nat)]) ∧ Ext wx w' from by
    have h := rows_any t v wx hx hb
    rw [← hC, ← hM, ← hrows] at h; exact h)
  have HRW := hid (fun v wx (hx : TbV wx v t) => show Calls Tryz.prog 19 #[v, .int .i64 x] wx fun e w' => ∃ X ca, e = .returned (.tuple #[.slice X q ca, .int .i64 (E0 : Nat)]) ∧ Rd w' X (cls row) ∧ Ext wx w' from by
    have h := row_any t x v wx hx hb (fun h => hR6 (hC.trans h))
    rw [← hE0, ← hrow, ← hq] at h
    refine Calls.mono h ?_
    rintro e w' ⟨v', rfl, ho, hx⟩
    obtain ⟨X, ca, rfl, hr, _⟩ := Rd.owned ho
    exact ⟨X, ca, rfl, hr, hx⟩)
  have HTC := hid (fun v wx (hx : TbV wx v t) => show Calls Tryz.prog 23 #[v] wx fun e w' => e = .returned (.int .i64 (C : Nat)) ∧ Ext wx w' from by
    have h := tabCheck_any t v wx hx hb
    rw [← hC] at h; exact h)
  have HPC := hid (fun v wx (hx : TbV wx v t) => show Calls Tryz.prog 29 #[v] wx fun e w' => e = .returned (.int .i64 (C : Nat)) ∧ Ext wx w' from by
    have h := tcheck_any t v wx hx hb
    rw [← hC] at h; exact h)
  have HRO := hid (fun v wx (hx : TbV wx v t) => show Calls Tryz.prog 24 #[v] wx fun e w' => e = .returned (.int .i64 (M : Nat)) ∧ Ext wx w' from by rw [hM]; exact rowsOf_any t v wx hx hb)
  have HRA := hid (fun (hc : C = 0) (i : Nat) (hi : i < M) (hxi : x = (i : Int)) v wx (hx : TbV wx v t) => show Calls Tryz.prog 25 #[v, .int .i64 x] wx fun e w' => ∃ X ca, e = .returned (.slice X q ca) ∧ Rd w' X (cls row) ∧ Ext wx w' from by
    obtain ⟨r1, r2, r3⟩ := hR6 hc
    have hE : rowE t i = 0 := by unfold rowE; rw [if_neg (by rw [← hC, hc]; decide), if_neg (by rw [← hM]; omega)]
    have hl : row = Tb.rowAt t.2 i := by rw [hrow, hxi]; unfold rowL; rw [if_pos hE]; rfl
    have h := rowAt_any t i v wx hx (by omega) (fun l hl => by rw [r2 l hl, ← hM]; exact hi) (fun l hl => by rw [r2 l hl]; omega)
    rw [← hl, show t.2.length = q by rw [hq, hl, Tb.row_len]] at h
    rw [hxi]
    refine Calls.mono h ?_
    rintro e w' ⟨v', rfl, ho, hx⟩
    obtain ⟨X, ca, rfl, hr, _⟩ := Rd.owned ho
    exact ⟨X, ca, rfl, hr, hx⟩)
  have HBAD := hid (fun (h : C ≠ 0) => show rows = 0 ∧ E0 = C ∧ row = [] ∧ q = 0 from by
    have h1 : E0 = C := by rw [hE0]; unfold rowE; rw [if_pos (by rw [← hC]; exact h), hC]
    have h2 : row = [] := by rw [hrow]; unfold rowL; rw [if_neg (by rw [← hE0, h1]; exact h)]
    exact ⟨by rw [hrows, if_neg h], h1, h2, by rw [hq, h2]; rfl⟩)
  have HOUT := hid (fun (h : C = 0) (ho : x < 0 ∨ (M : Int) ≤ x) => show rows = M ∧ E0 = 3 ∧ row = [] ∧ q = 0 from by
    have h1 : E0 = 3 := by rw [hE0]; unfold rowE; rw [if_neg (by rw [← hC, h]; decide), if_pos (by rw [← hM]; exact ho)]
    have h2 : row = [] := by rw [hrow]; unfold rowL; rw [if_neg (by rw [← hE0, h1]; decide)]
    exact ⟨by rw [hrows, if_pos h], h1, h2, by rw [hq, h2]; rfl⟩)
  have HIN := hid (fun (h : C = 0) (ho : ¬ (x < 0 ∨ (M : Int) ≤ x)) => show rows = M ∧ E0 = 0 from
    ⟨by rw [hrows, if_pos h], by rw [hE0]; unfold rowE; rw [if_neg (by rw [← hC, h]; decide), if_neg (by rw [← hM]; exact ho)]⟩)
  have HQ := hid (show row.length = q ∧ q ≤ 140737488355328 from ⟨hq.symm, by
    by_cases hc : C = 0
    · rw [hq, hrow]; unfold rowL
      by_cases h1 : rowE t x = 0
      · rw [if_pos h1, Tb.row_len]; have := (hR6 hc).1; omega
      · rw [if_neg h1]; decide
    · have h1 : rowE t x ≠ 0 := by unfold rowE; rw [if_pos (by rw [← hC]; exact hc), ← hC]; exact hc
      rw [hq, hrow]; unfold rowL; rw [if_neg h1]; decide⟩)
  have XN := hid ((((ext_refl w).new (.cells #[.slice A n c, .slice B m d] 25)).new (.cells #[.string cs, .int .i64 ck] 39)).new (.cells #[.int .i64 xk, .int .u64 (xn : Nat), .string xs] 42))
  clear hv hb hsc hsn hE1 hE2 hE3 hT1 hT2 hT3 hC hM hrows hE0 hrow hq hR6
  go_enter Tryz.func4, Tryz.ntmps4
  go_upto_region 1 with fail
  refine wp_gen (fun w' => Ext w w' ∧ Blk w' w.heap.size 25 #[.slice A n c, .slice B m d] ∧ Blk w' (w.heap.size + 1) 39 #[.string cs, .int .i64 ck] ∧ Blk w' (w.heap.size + 1 + 1) 42 #[.int .i64 xk, .int .u64 (xn : Nat), .string xs]) ⟨XN.out, ((Blk.new _ _ _).alloc _).alloc _, (blk_at _ _ (by simp)).alloc _, blk_at _ _ (by simp)⟩ ?_
  rintro wz ⟨x0, x1, x2, x3⟩
  have X0 : Hid (Ext w wz) := hid x0
  have X : Hid (Ext wz wz) := hid (ext_refl wz)
  have BT := hid x1
  have BC := hid x2
  have BX := hid x3
  have VT := hid (HV0.out.keep x0)
  clear x0 x1 x2 x3 XN HV0
  have BTk := hid (BT.out.keep X.out)
  have kBTk0 := BTk.out.cell 0
  have kBTk1 := BTk.out.cell 1
  go_wp2_with fail
  refine Calls.mono (HRS.out _ _ (VT.out.keep X.out)) ?_
  rintro e w1 ⟨rfl, hx⟩
  replace X := hid (X.out.then hx)
  clear kBTk0 kBTk1 hx BTk
  have BTk := hid (BT.out.keep X.out)
  have kBTk0 := BTk.out.cell 0
  have kBTk1 := BTk.out.cell 1
  go_wp2_with fail
  refine Calls.mono (HRW.out _ _ (VT.out.keep X.out)) ?_
  rintro e w2 ⟨XA, ca, rfl, hr, hx⟩
  replace X := hid (X.out.then hx)
  have RR := hid hr
  clear kBTk0 kBTk1 hx BTk hr
  have BTk := hid (BT.out.keep X.out)
  have BCk := hid (BC.out.keep X.out)
  have BXk := hid (BX.out.keep X.out)
  have kBTk0 := BTk.out.cell 0
  have kBTk1 := BTk.out.cell 1
  have kBCk0 := BCk.out.cell 0
  have kBCk1 := BCk.out.cell 1
  have kBXk0 := BXk.out.cell 0
  have kBXk1 := BXk.out.cell 1
  have kBXk2 := BXk.out.cell 2
  go_wp2_with fail
  refine Calls.mono (HA1.out _ _ (VT.out.keep X.out)) ?_
  rintro e w3 ⟨v', rfl, hl, hx⟩
  obtain ⟨Aza, nza, cza, Dza, mza, dza, rfl⟩ := hl.V.shape
  have hn := Ext.new (ext_refl w3) (.cells #[.slice Aza nza cza, .slice Dza mza dza] 25)
  have Bza := hid (Blk.new w3 25 #[.slice Aza nza cza, .slice Dza mza dza])
  have Vza := hid (hl.V.keep hn)
  have hy := Ext.then hx hn
  replace X := hid (X.out.then hy)
  replace RR := hid (RR.out.keep hy)
  clear BTk BCk BXk kBTk0 kBTk1 kBCk0 kBCk1 kBXk0 kBXk1 kBXk2 hx hl hn hy
  have BTk := hid (BT.out.keep X.out)
  have BCk := hid (BC.out.keep X.out)
  have kBTk0 := BTk.out.cell 0
  have kBTk1 := BTk.out.cell 1
  have kBCk0 := BCk.out.cell 0
  have kBCk1 := BCk.out.cell 1
  go_wp2_with fail
  refine Calls.mono (HA2.out _ _ (VT.out.keep X.out)) ?_
  rintro e w4 ⟨v', rfl, hl, hx⟩
  obtain ⟨Azb, nzb, czb, Dzb, mzb, dzb, rfl⟩ := hl.V.shape
  have hn := Ext.new (ext_refl w4) (.cells #[.slice Azb nzb czb, .slice Dzb mzb dzb] 25)
  have Bzb := hid (Blk.new w4 25 #[.slice Azb nzb czb, .slice Dzb mzb dzb])
  have Vzb := hid (hl.V.keep hn)
  have hy := Ext.then hx hn
  replace X := hid (X.out.then hy)
  replace RR := hid (RR.out.keep hy)
  replace Bza := hid (Bza.out.keep hy)
  replace Vza := hid (Vza.out.keep hy)
  clear BTk BCk kBTk0 kBTk1 kBCk0 kBCk1 hx hl hn hy
  have BTk := hid (BT.out.keep X.out)
  have BCk := hid (BC.out.keep X.out)
  have kBTk0 := BTk.out.cell 0
  have kBTk1 := BTk.out.cell 1
  have kBCk0 := BCk.out.cell 0
  have kBCk1 := BCk.out.cell 1
  go_wp2_with fail
  refine Calls.mono (HA3.out _ _ (VT.out.keep X.out)) ?_
  rintro e w5 ⟨v', rfl, hl, hx⟩
  obtain ⟨Azc, nzc, czc, Dzc, mzc, dzc, rfl⟩ := hl.V.shape
  have hn := Ext.new (ext_refl w5) (.cells #[.slice Azc nzc czc, .slice Dzc mzc dzc] 25)
  have Bzc := hid (Blk.new w5 25 #[.slice Azc nzc czc, .slice Dzc mzc dzc])
  have Vzc := hid (hl.V.keep hn)
  have hy := Ext.then hx hn
  replace X := hid (X.out.then hy)
  replace RR := hid (RR.out.keep hy)
  replace Bza := hid (Bza.out.keep hy)
  replace Vza := hid (Vza.out.keep hy)
  replace Bzb := hid (Bzb.out.keep hy)
  replace Vzb := hid (Vzb.out.keep hy)
  clear BTk BCk kBTk0 kBTk1 kBCk0 kBCk1 hx hl hn hy
  have BTk := hid (BT.out.keep X.out)
  have kBTk0 := BTk.out.cell 0
  have kBTk1 := BTk.out.cell 1
  go_wp2_with fail
  refine Calls.mono (HTC.out _ _ (VT.out.keep X.out)) ?_
  rintro e w6 ⟨rfl, hx⟩
  replace X := hid (X.out.then hx)
  replace RR := hid (RR.out.keep hx)
  replace Bza := hid (Bza.out.keep hx)
  replace Vza := hid (Vza.out.keep hx)
  replace Bzb := hid (Bzb.out.keep hx)
  replace Vzb := hid (Vzb.out.keep hx)
  replace Bzc := hid (Bzc.out.keep hx)
  replace Vzc := hid (Vzc.out.keep hx)
  clear kBTk0 kBTk1 hx BTk
  by_cases hc : C = 0
  · by_cases ho : x < 0 ∨ (M : Int) ≤ x
    · obtain ⟨rfl, rfl, rfl, rfl⟩ := HOUT.out hc ho
      subst hc
      have ho2 : x < 0 ∨ (0 ≤ x ∧ (rows : Int) ≤ x) := by omega
      clear ho
      rcases ho2 with g1 | ⟨g1, g2⟩
      all_goals (
        have BTk := hid (BT.out.keep X.out)
        have kBTk0 := BTk.out.cell 0
        have kBTk1 := BTk.out.cell 1
        go_wp2_with fail
        refine Calls.mono (HRO.out _ _ (VT.out.keep X.out)) ?_
        rintro e w7 ⟨rfl, hx⟩
        replace X := hid (X.out.then hx)
        replace RR := hid (RR.out.keep hx)
        replace Bza := hid (Bza.out.keep hx)
        replace Vza := hid (Vza.out.keep hx)
        replace Bzb := hid (Bzb.out.keep hx)
        replace Vzb := hid (Vzb.out.keep hx)
        replace Bzc := hid (Bzc.out.keep hx)
        replace Vzc := hid (Vzc.out.keep hx)
        clear kBTk0 kBTk1 hx BTk
        have BTk := hid (BT.out.keep X.out)
        have BCk := hid (BC.out.keep X.out)
        have BXk := hid (BX.out.keep X.out)
        have kBTk0 := BTk.out.cell 0
        have kBTk1 := BTk.out.cell 1
        have kBCk0 := BCk.out.cell 0
        have kBCk1 := BCk.out.cell 1
        have kBXk0 := BXk.out.cell 0
        have kBXk1 := BXk.out.cell 1
        have kBXk2 := BXk.out.cell 2
        go_wp2_with fail
        refine Calls.mono (HD1.out _ _ (VT.out.keep X.out)) ?_
        rintro e w13 ⟨v', rfl, hl, hx⟩
        obtain ⟨Aya, nya, cya, Dya, mya, dya, rfl⟩ := hl.V.shape
        have hn := Ext.new (ext_refl w13) (.cells #[.slice Aya nya cya, .slice Dya mya dya] 25)
        have Bya := hid (Blk.new w13 25 #[.slice Aya nya cya, .slice Dya mya dya])
        have Vya := hid (hl.V.keep hn)
        have hy := Ext.then hx hn
        replace X := hid (X.out.then hy)
        replace RR := hid (RR.out.keep hy)
        replace Bza := hid (Bza.out.keep hy)
        replace Vza := hid (Vza.out.keep hy)
        replace Bzb := hid (Bzb.out.keep hy)
        replace Vzb := hid (Vzb.out.keep hy)
        replace Bzc := hid (Bzc.out.keep hy)
        replace Vzc := hid (Vzc.out.keep hy)
        clear BTk BCk BXk kBTk0 kBTk1 kBCk0 kBCk1 kBXk0 kBXk1 kBXk2 hx hl hn hy
        have BTk := hid (BT.out.keep X.out)
        have BCk := hid (BC.out.keep X.out)
        have kBTk0 := BTk.out.cell 0
        have kBTk1 := BTk.out.cell 1
        have kBCk0 := BCk.out.cell 0
        have kBCk1 := BCk.out.cell 1
        go_wp2_with fail
        refine Calls.mono (HD2.out _ _ (VT.out.keep X.out)) ?_
        rintro e w14 ⟨v', rfl, hl, hx⟩
        obtain ⟨Ayb, nyb, cyb, Dyb, myb, dyb, rfl⟩ := hl.V.shape
        have hn := Ext.new (ext_refl w14) (.cells #[.slice Ayb nyb cyb, .slice Dyb myb dyb] 25)
        have Byb := hid (Blk.new w14 25 #[.slice Ayb nyb cyb, .slice Dyb myb dyb])
        have Vyb := hid (hl.V.keep hn)
        have hy := Ext.then hx hn
        replace X := hid (X.out.then hy)
        replace RR := hid (RR.out.keep hy)
        replace Bza := hid (Bza.out.keep hy)
        replace Vza := hid (Vza.out.keep hy)
        replace Bzb := hid (Bzb.out.keep hy)
        replace Vzb := hid (Vzb.out.keep hy)
        replace Bzc := hid (Bzc.out.keep hy)
        replace Vzc := hid (Vzc.out.keep hy)
        replace Bya := hid (Bya.out.keep hy)
        replace Vya := hid (Vya.out.keep hy)
        clear BTk BCk kBTk0 kBTk1 kBCk0 kBCk1 hx hl hn hy
        have BTk := hid (BT.out.keep X.out)
        have BCk := hid (BC.out.keep X.out)
        have kBTk0 := BTk.out.cell 0
        have kBTk1 := BTk.out.cell 1
        have kBCk0 := BCk.out.cell 0
        have kBCk1 := BCk.out.cell 1
        go_wp2_with fail
        refine Calls.mono (HD3.out _ _ (VT.out.keep X.out)) ?_
        rintro e w15 ⟨v', rfl, hl, hx⟩
        obtain ⟨Ayc, nyc, cyc, Dyc, myc, dyc, rfl⟩ := hl.V.shape
        have hn := Ext.new (ext_refl w15) (.cells #[.slice Ayc nyc cyc, .slice Dyc myc dyc] 25)
        have Byc := hid (Blk.new w15 25 #[.slice Ayc nyc cyc, .slice Dyc myc dyc])
        have Vyc := hid (hl.V.keep hn)
        have hy := Ext.then hx hn
        replace X := hid (X.out.then hy)
        replace RR := hid (RR.out.keep hy)
        replace Bza := hid (Bza.out.keep hy)
        replace Vza := hid (Vza.out.keep hy)
        replace Bzb := hid (Bzb.out.keep hy)
        replace Vzb := hid (Vzb.out.keep hy)
        replace Bzc := hid (Bzc.out.keep hy)
        replace Vzc := hid (Vzc.out.keep hy)
        replace Bya := hid (Bya.out.keep hy)
        replace Vya := hid (Vya.out.keep hy)
        replace Byb := hid (Byb.out.keep hy)
        replace Vyb := hid (Vyb.out.keep hy)
        clear BTk BCk kBTk0 kBTk1 kBCk0 kBCk1 hx hl hn hy
        go_wp2_with fail
        refine Calls.mono (tableBegun_any _) ?_
        rintro e w16 ⟨rfl, hx⟩
        replace X := hid (X.out.then hx)
        replace RR := hid (RR.out.keep hx)
        replace Bza := hid (Bza.out.keep hx)
        replace Vza := hid (Vza.out.keep hx)
        replace Bzb := hid (Bzb.out.keep hx)
        replace Vzb := hid (Vzb.out.keep hx)
        replace Bzc := hid (Bzc.out.keep hx)
        replace Vzc := hid (Vzc.out.keep hx)
        replace Bya := hid (Bya.out.keep hx)
        replace Vya := hid (Vya.out.keep hx)
        replace Byb := hid (Byb.out.keep hx)
        replace Vyb := hid (Vyb.out.keep hx)
        replace Byc := hid (Byc.out.keep hx)
        replace Vyc := hid (Vyc.out.keep hx)
        clear  hx
        have BTk := hid (BT.out.keep X.out)
        have kBTk0 := BTk.out.cell 0
        have kBTk1 := BTk.out.cell 1
        go_wp2_with fail
        refine Calls.mono (HPC.out _ _ (VT.out.keep X.out)) ?_
        rintro e w17 ⟨rfl, hx⟩
        replace X := hid (X.out.then hx)
        replace RR := hid (RR.out.keep hx)
        replace Bza := hid (Bza.out.keep hx)
        replace Vza := hid (Vza.out.keep hx)
        replace Bzb := hid (Bzb.out.keep hx)
        replace Vzb := hid (Vzb.out.keep hx)
        replace Bzc := hid (Bzc.out.keep hx)
        replace Vzc := hid (Vzc.out.keep hx)
        replace Bya := hid (Bya.out.keep hx)
        replace Vya := hid (Vya.out.keep hx)
        replace Byb := hid (Byb.out.keep hx)
        replace Vyb := hid (Vyb.out.keep hx)
        replace Byc := hid (Byc.out.keep hx)
        replace Vyc := hid (Vyc.out.keep hx)
        clear kBTk0 kBTk1 hx BTk
        go_wp2_with fail
        refine Calls.mono (HSC.out [] _ none 0 _ 0 _ rfl (by decide) RR.out (fun h => by simp [cls] at h)) ?_
        rintro e w18 ⟨rfl, hx⟩
        replace X := hid (X.out.then hx)
        replace Bza := hid (Bza.out.keep hx)
        replace Vza := hid (Vza.out.keep hx)
        replace Bzb := hid (Bzb.out.keep hx)
        replace Vzb := hid (Vzb.out.keep hx)
        replace Bzc := hid (Bzc.out.keep hx)
        replace Vzc := hid (Vzc.out.keep hx)
        replace Bya := hid (Bya.out.keep hx)
        replace Vya := hid (Vya.out.keep hx)
        replace Byb := hid (Byb.out.keep hx)
        replace Vyb := hid (Vyb.out.keep hx)
        replace Byc := hid (Byc.out.keep hx)
        replace Vyc := hid (Vyc.out.keep hx)
        clear hx
        have kBza0 := Bza.out.cell 0
        have kBza1 := Bza.out.cell 1
        have kBya0 := Bya.out.cell 0
        have kBya1 := Bya.out.cell 1
        go_wp2_with fail
        refine Calls.mono (HSM.out _ HB1.out _ _ _ Vza.out Vya.out) ?_
        rintro e w19 ⟨rfl, hx⟩
        replace X := hid (X.out.then hx)
        replace Bzb := hid (Bzb.out.keep hx)
        replace Vzb := hid (Vzb.out.keep hx)
        replace Bzc := hid (Bzc.out.keep hx)
        replace Vzc := hid (Vzc.out.keep hx)
        replace Byb := hid (Byb.out.keep hx)
        replace Vyb := hid (Vyb.out.keep hx)
        replace Byc := hid (Byc.out.keep hx)
        replace Vyc := hid (Vyc.out.keep hx)
        clear kBza0 kBza1 kBya0 kBya1 hx
        have kBzb0 := Bzb.out.cell 0
        have kBzb1 := Bzb.out.cell 1
        have kByb0 := Byb.out.cell 0
        have kByb1 := Byb.out.cell 1
        go_wp2_with fail
        refine Calls.mono (HSM.out _ HB2.out _ _ _ Vzb.out Vyb.out) ?_
        rintro e w20 ⟨rfl, hx⟩
        replace X := hid (X.out.then hx)
        replace Bzc := hid (Bzc.out.keep hx)
        replace Vzc := hid (Vzc.out.keep hx)
        replace Byc := hid (Byc.out.keep hx)
        replace Vyc := hid (Vyc.out.keep hx)
        clear kBzb0 kBzb1 kByb0 kByb1 hx
        have kBzc0 := Bzc.out.cell 0
        have kBzc1 := Bzc.out.cell 1
        have kByc0 := Byc.out.cell 0
        have kByc1 := Byc.out.cell 1
        go_wp2_with fail
        refine Calls.mono (HSM.out _ HB3.out _ _ _ Vzc.out Vyc.out) ?_
        rintro e w21 ⟨rfl, hx⟩
        replace X := hid (X.out.then hx)
        clear kBzc0 kBzc1 kByc0 kByc1 hx
        go_wp2
        go_returns
        exact ⟨rfl, X0.out.then X.out⟩)
    · obtain ⟨rfl, rfl⟩ := HIN.out hc ho
      obtain ⟨i, hi⟩ : ∃ i : Nat, x = (i : Int) := ⟨x.toNat, by omega⟩
      have HRA2 := hid (HRA.out hc i (by omega) hi)
      have g1 : (0 : Int) ≤ x := by omega
      have g2 : x < (rows : Int) := by omega
      subst hc
      clear ho hi
      have BTk := hid (BT.out.keep X.out)
      have kBTk0 := BTk.out.cell 0
      have kBTk1 := BTk.out.cell 1
      go_wp2_with fail
      refine Calls.mono (HRO.out _ _ (VT.out.keep X.out)) ?_
      rintro e w7 ⟨rfl, hx⟩
      replace X := hid (X.out.then hx)
      replace RR := hid (RR.out.keep hx)
      replace Bza := hid (Bza.out.keep hx)
      replace Vza := hid (Vza.out.keep hx)
      replace Bzb := hid (Bzb.out.keep hx)
      replace Vzb := hid (Vzb.out.keep hx)
      replace Bzc := hid (Bzc.out.keep hx)
      replace Vzc := hid (Vzc.out.keep hx)
      clear kBTk0 kBTk1 hx BTk
      have BTk := hid (BT.out.keep X.out)
      have kBTk0 := BTk.out.cell 0
      have kBTk1 := BTk.out.cell 1
      go_wp2_with fail
      refine Calls.mono (HRA2.out _ _ (VT.out.keep X.out)) ?_
      rintro e w8 ⟨XB, cb, rfl, hr2, hx⟩
      replace X := hid (X.out.then hx)
      have RW := hid hr2
      replace RR := hid (RR.out.keep hx)
      replace Bza := hid (Bza.out.keep hx)
      replace Vza := hid (Vza.out.keep hx)
      replace Bzb := hid (Bzb.out.keep hx)
      replace Vzb := hid (Vzb.out.keep hx)
      replace Bzc := hid (Bzc.out.keep hx)
      replace Vzc := hid (Vzc.out.keep hx)
      clear kBTk0 kBTk1 hx BTk hr2
      have BTk := hid (BT.out.keep X.out)
      have BCk := hid (BC.out.keep X.out)
      have BXk := hid (BX.out.keep X.out)
      have kBTk0 := BTk.out.cell 0
      have kBTk1 := BTk.out.cell 1
      have kBCk0 := BCk.out.cell 0
      have kBCk1 := BCk.out.cell 1
      have kBXk0 := BXk.out.cell 0
      have kBXk1 := BXk.out.cell 1
      have kBXk2 := BXk.out.cell 2
      go_wp2_with fail
      refine Calls.mono (HD1.out _ _ (VT.out.keep X.out)) ?_
      rintro e w13 ⟨v', rfl, hl, hx⟩
      obtain ⟨Aya, nya, cya, Dya, mya, dya, rfl⟩ := hl.V.shape
      have hn := Ext.new (ext_refl w13) (.cells #[.slice Aya nya cya, .slice Dya mya dya] 25)
      have Bya := hid (Blk.new w13 25 #[.slice Aya nya cya, .slice Dya mya dya])
      have Vya := hid (hl.V.keep hn)
      have hy := Ext.then hx hn
      replace X := hid (X.out.then hy)
      replace RR := hid (RR.out.keep hy)
      replace RW := hid (RW.out.keep hy)
      replace Bza := hid (Bza.out.keep hy)
      replace Vza := hid (Vza.out.keep hy)
      replace Bzb := hid (Bzb.out.keep hy)
      replace Vzb := hid (Vzb.out.keep hy)
      replace Bzc := hid (Bzc.out.keep hy)
      replace Vzc := hid (Vzc.out.keep hy)
      clear BTk BCk BXk kBTk0 kBTk1 kBCk0 kBCk1 kBXk0 kBXk1 kBXk2 hx hl hn hy
      have BTk := hid (BT.out.keep X.out)
      have BCk := hid (BC.out.keep X.out)
      have kBTk0 := BTk.out.cell 0
      have kBTk1 := BTk.out.cell 1
      have kBCk0 := BCk.out.cell 0
      have kBCk1 := BCk.out.cell 1
      go_wp2_with fail
      refine Calls.mono (HD2.out _ _ (VT.out.keep X.out)) ?_
      rintro e w14 ⟨v', rfl, hl, hx⟩
      obtain ⟨Ayb, nyb, cyb, Dyb, myb, dyb, rfl⟩ := hl.V.shape
      have hn := Ext.new (ext_refl w14) (.cells #[.slice Ayb nyb cyb, .slice Dyb myb dyb] 25)
      have Byb := hid (Blk.new w14 25 #[.slice Ayb nyb cyb, .slice Dyb myb dyb])
      have Vyb := hid (hl.V.keep hn)
      have hy := Ext.then hx hn
      replace X := hid (X.out.then hy)
      replace RR := hid (RR.out.keep hy)
      replace RW := hid (RW.out.keep hy)
      replace Bza := hid (Bza.out.keep hy)
      replace Vza := hid (Vza.out.keep hy)
      replace Bzb := hid (Bzb.out.keep hy)
      replace Vzb := hid (Vzb.out.keep hy)
      replace Bzc := hid (Bzc.out.keep hy)
      replace Vzc := hid (Vzc.out.keep hy)
      replace Bya := hid (Bya.out.keep hy)
      replace Vya := hid (Vya.out.keep hy)
      clear BTk BCk kBTk0 kBTk1 kBCk0 kBCk1 hx hl hn hy
      have BTk := hid (BT.out.keep X.out)
      have BCk := hid (BC.out.keep X.out)
      have kBTk0 := BTk.out.cell 0
      have kBTk1 := BTk.out.cell 1
      have kBCk0 := BCk.out.cell 0
      have kBCk1 := BCk.out.cell 1
      go_wp2_with fail
      refine Calls.mono (HD3.out _ _ (VT.out.keep X.out)) ?_
      rintro e w15 ⟨v', rfl, hl, hx⟩
      obtain ⟨Ayc, nyc, cyc, Dyc, myc, dyc, rfl⟩ := hl.V.shape
      have hn := Ext.new (ext_refl w15) (.cells #[.slice Ayc nyc cyc, .slice Dyc myc dyc] 25)
      have Byc := hid (Blk.new w15 25 #[.slice Ayc nyc cyc, .slice Dyc myc dyc])
      have Vyc := hid (hl.V.keep hn)
      have hy := Ext.then hx hn
      replace X := hid (X.out.then hy)
      replace RR := hid (RR.out.keep hy)
      replace RW := hid (RW.out.keep hy)
      replace Bza := hid (Bza.out.keep hy)
      replace Vza := hid (Vza.out.keep hy)
      replace Bzb := hid (Bzb.out.keep hy)
      replace Vzb := hid (Vzb.out.keep hy)
      replace Bzc := hid (Bzc.out.keep hy)
      replace Vzc := hid (Vzc.out.keep hy)
      replace Bya := hid (Bya.out.keep hy)
      replace Vya := hid (Vya.out.keep hy)
      replace Byb := hid (Byb.out.keep hy)
      replace Vyb := hid (Vyb.out.keep hy)
      clear BTk BCk kBTk0 kBTk1 kBCk0 kBCk1 hx hl hn hy
      go_wp2_with fail
      refine Calls.mono (tableBegun_any _) ?_
      rintro e w16 ⟨rfl, hx⟩
      replace X := hid (X.out.then hx)
      replace RR := hid (RR.out.keep hx)
      replace RW := hid (RW.out.keep hx)
      replace Bza := hid (Bza.out.keep hx)
      replace Vza := hid (Vza.out.keep hx)
      replace Bzb := hid (Bzb.out.keep hx)
      replace Vzb := hid (Vzb.out.keep hx)
      replace Bzc := hid (Bzc.out.keep hx)
      replace Vzc := hid (Vzc.out.keep hx)
      replace Bya := hid (Bya.out.keep hx)
      replace Vya := hid (Vya.out.keep hx)
      replace Byb := hid (Byb.out.keep hx)
      replace Vyb := hid (Vyb.out.keep hx)
      replace Byc := hid (Byc.out.keep hx)
      replace Vyc := hid (Vyc.out.keep hx)
      clear  hx
      have BTk := hid (BT.out.keep X.out)
      have kBTk0 := BTk.out.cell 0
      have kBTk1 := BTk.out.cell 1
      go_wp2_with fail
      refine Calls.mono (HPC.out _ _ (VT.out.keep X.out)) ?_
      rintro e w17 ⟨rfl, hx⟩
      replace X := hid (X.out.then hx)
      replace RR := hid (RR.out.keep hx)
      replace RW := hid (RW.out.keep hx)
      replace Bza := hid (Bza.out.keep hx)
      replace Vza := hid (Vza.out.keep hx)
      replace Bzb := hid (Bzb.out.keep hx)
      replace Vzb := hid (Vzb.out.keep hx)
      replace Bzc := hid (Bzc.out.keep hx)
      replace Vzc := hid (Vzc.out.keep hx)
      replace Bya := hid (Bya.out.keep hx)
      replace Vya := hid (Vya.out.keep hx)
      replace Byb := hid (Byb.out.keep hx)
      replace Vyb := hid (Vyb.out.keep hx)
      replace Byc := hid (Byc.out.keep hx)
      replace Vyc := hid (Vyc.out.keep hx)
      clear kBTk0 kBTk1 hx BTk
      go_wp2_with fail
      refine Calls.mono (HSC.out row _ _ _ _ _  _ HQ.out.1 HQ.out.2 RR.out RW.out) ?_
      rintro e w18 ⟨rfl, hx⟩
      replace X := hid (X.out.then hx)
      replace Bza := hid (Bza.out.keep hx)
      replace Vza := hid (Vza.out.keep hx)
      replace Bzb := hid (Bzb.out.keep hx)
      replace Vzb := hid (Vzb.out.keep hx)
      replace Bzc := hid (Bzc.out.keep hx)
      replace Vzc := hid (Vzc.out.keep hx)
      replace Bya := hid (Bya.out.keep hx)
      replace Vya := hid (Vya.out.keep hx)
      replace Byb := hid (Byb.out.keep hx)
      replace Vyb := hid (Vyb.out.keep hx)
      replace Byc := hid (Byc.out.keep hx)
      replace Vyc := hid (Vyc.out.keep hx)
      clear hx
      have kBza0 := Bza.out.cell 0
      have kBza1 := Bza.out.cell 1
      have kBya0 := Bya.out.cell 0
      have kBya1 := Bya.out.cell 1
      go_wp2_with fail
      refine Calls.mono (HSM.out _ HB1.out _ _ _ Vza.out Vya.out) ?_
      rintro e w19 ⟨rfl, hx⟩
      replace X := hid (X.out.then hx)
      replace Bzb := hid (Bzb.out.keep hx)
      replace Vzb := hid (Vzb.out.keep hx)
      replace Bzc := hid (Bzc.out.keep hx)
      replace Vzc := hid (Vzc.out.keep hx)
      replace Byb := hid (Byb.out.keep hx)
      replace Vyb := hid (Vyb.out.keep hx)
      replace Byc := hid (Byc.out.keep hx)
      replace Vyc := hid (Vyc.out.keep hx)
      clear kBza0 kBza1 kBya0 kBya1 hx
      have kBzb0 := Bzb.out.cell 0
      have kBzb1 := Bzb.out.cell 1
      have kByb0 := Byb.out.cell 0
      have kByb1 := Byb.out.cell 1
      go_wp2_with fail
      refine Calls.mono (HSM.out _ HB2.out _ _ _ Vzb.out Vyb.out) ?_
      rintro e w20 ⟨rfl, hx⟩
      replace X := hid (X.out.then hx)
      replace Bzc := hid (Bzc.out.keep hx)
      replace Vzc := hid (Vzc.out.keep hx)
      replace Byc := hid (Byc.out.keep hx)
      replace Vyc := hid (Vyc.out.keep hx)
      clear kBzb0 kBzb1 kByb0 kByb1 hx
      have kBzc0 := Bzc.out.cell 0
      have kBzc1 := Bzc.out.cell 1
      have kByc0 := Byc.out.cell 0
      have kByc1 := Byc.out.cell 1
      go_wp2_with fail
      refine Calls.mono (HSM.out _ HB3.out _ _ _ Vzc.out Vyc.out) ?_
      rintro e w21 ⟨rfl, hx⟩
      replace X := hid (X.out.then hx)
      clear kBzc0 kBzc1 kByc0 kByc1 hx
      go_wp2
      go_returns
      exact ⟨rfl, X0.out.then X.out⟩
  · obtain ⟨rfl, rfl, rfl, rfl⟩ := HBAD.out hc
    have e1 : ((E0 : Int) == 0) = false := beq_eq_false_iff_ne.2 (by omega)
    have e2 : ((E0 : Int) != 0) = true := by simp; omega
    clear hc
    have BTk := hid (BT.out.keep X.out)
    have BCk := hid (BC.out.keep X.out)
    have BXk := hid (BX.out.keep X.out)
    have kBTk0 := BTk.out.cell 0
    have kBTk1 := BTk.out.cell 1
    have kBCk0 := BCk.out.cell 0
    have kBCk1 := BCk.out.cell 1
    have kBXk0 := BXk.out.cell 0
    have kBXk1 := BXk.out.cell 1
    have kBXk2 := BXk.out.cell 2
    go_wp2_with fail
    refine Calls.mono (HD1.out _ _ (VT.out.keep X.out)) ?_
    rintro e w13 ⟨v', rfl, hl, hx⟩
    obtain ⟨Aya, nya, cya, Dya, mya, dya, rfl⟩ := hl.V.shape
    have hn := Ext.new (ext_refl w13) (.cells #[.slice Aya nya cya, .slice Dya mya dya] 25)
    have Bya := hid (Blk.new w13 25 #[.slice Aya nya cya, .slice Dya mya dya])
    have Vya := hid (hl.V.keep hn)
    have hy := Ext.then hx hn
    replace X := hid (X.out.then hy)
    replace RR := hid (RR.out.keep hy)
    replace Bza := hid (Bza.out.keep hy)
    replace Vza := hid (Vza.out.keep hy)
    replace Bzb := hid (Bzb.out.keep hy)
    replace Vzb := hid (Vzb.out.keep hy)
    replace Bzc := hid (Bzc.out.keep hy)
    replace Vzc := hid (Vzc.out.keep hy)
    clear BTk BCk BXk kBTk0 kBTk1 kBCk0 kBCk1 kBXk0 kBXk1 kBXk2 hx hl hn hy
    have BTk := hid (BT.out.keep X.out)
    have BCk := hid (BC.out.keep X.out)
    have kBTk0 := BTk.out.cell 0
    have kBTk1 := BTk.out.cell 1
    have kBCk0 := BCk.out.cell 0
    have kBCk1 := BCk.out.cell 1
    go_wp2_with fail
    refine Calls.mono (HD2.out _ _ (VT.out.keep X.out)) ?_
    rintro e w14 ⟨v', rfl, hl, hx⟩
    obtain ⟨Ayb, nyb, cyb, Dyb, myb, dyb, rfl⟩ := hl.V.shape
    have hn := Ext.new (ext_refl w14) (.cells #[.slice Ayb nyb cyb, .slice Dyb myb dyb] 25)
    have Byb := hid (Blk.new w14 25 #[.slice Ayb nyb cyb, .slice Dyb myb dyb])
    have Vyb := hid (hl.V.keep hn)
    have hy := Ext.then hx hn
    replace X := hid (X.out.then hy)
    replace RR := hid (RR.out.keep hy)
    replace Bza := hid (Bza.out.keep hy)
    replace Vza := hid (Vza.out.keep hy)
    replace Bzb := hid (Bzb.out.keep hy)
    replace Vzb := hid (Vzb.out.keep hy)
    replace Bzc := hid (Bzc.out.keep hy)
    replace Vzc := hid (Vzc.out.keep hy)
    replace Bya := hid (Bya.out.keep hy)
    replace Vya := hid (Vya.out.keep hy)
    clear BTk BCk kBTk0 kBTk1 kBCk0 kBCk1 hx hl hn hy
    have BTk := hid (BT.out.keep X.out)
    have BCk := hid (BC.out.keep X.out)
    have kBTk0 := BTk.out.cell 0
    have kBTk1 := BTk.out.cell 1
    have kBCk0 := BCk.out.cell 0
    have kBCk1 := BCk.out.cell 1
    go_wp2_with fail
    refine Calls.mono (HD3.out _ _ (VT.out.keep X.out)) ?_
    rintro e w15 ⟨v', rfl, hl, hx⟩
    obtain ⟨Ayc, nyc, cyc, Dyc, myc, dyc, rfl⟩ := hl.V.shape
    have hn := Ext.new (ext_refl w15) (.cells #[.slice Ayc nyc cyc, .slice Dyc myc dyc] 25)
    have Byc := hid (Blk.new w15 25 #[.slice Ayc nyc cyc, .slice Dyc myc dyc])
    have Vyc := hid (hl.V.keep hn)
    have hy := Ext.then hx hn
    replace X := hid (X.out.then hy)
    replace RR := hid (RR.out.keep hy)
    replace Bza := hid (Bza.out.keep hy)
    replace Vza := hid (Vza.out.keep hy)
    replace Bzb := hid (Bzb.out.keep hy)
    replace Vzb := hid (Vzb.out.keep hy)
    replace Bzc := hid (Bzc.out.keep hy)
    replace Vzc := hid (Vzc.out.keep hy)
    replace Bya := hid (Bya.out.keep hy)
    replace Vya := hid (Vya.out.keep hy)
    replace Byb := hid (Byb.out.keep hy)
    replace Vyb := hid (Vyb.out.keep hy)
    clear BTk BCk kBTk0 kBTk1 kBCk0 kBCk1 hx hl hn hy
    go_wp2_with fail
    refine Calls.mono (tableBegun_any _) ?_
    rintro e w16 ⟨rfl, hx⟩
    replace X := hid (X.out.then hx)
    replace RR := hid (RR.out.keep hx)
    replace Bza := hid (Bza.out.keep hx)
    replace Vza := hid (Vza.out.keep hx)
    replace Bzb := hid (Bzb.out.keep hx)
    replace Vzb := hid (Vzb.out.keep hx)
    replace Bzc := hid (Bzc.out.keep hx)
    replace Vzc := hid (Vzc.out.keep hx)
    replace Bya := hid (Bya.out.keep hx)
    replace Vya := hid (Vya.out.keep hx)
    replace Byb := hid (Byb.out.keep hx)
    replace Vyb := hid (Vyb.out.keep hx)
    replace Byc := hid (Byc.out.keep hx)
    replace Vyc := hid (Vyc.out.keep hx)
    clear  hx
    have BTk := hid (BT.out.keep X.out)
    have kBTk0 := BTk.out.cell 0
    have kBTk1 := BTk.out.cell 1
    go_wp2_with fail
    refine Calls.mono (HPC.out _ _ (VT.out.keep X.out)) ?_
    rintro e w17 ⟨rfl, hx⟩
    replace X := hid (X.out.then hx)
    replace RR := hid (RR.out.keep hx)
    replace Bza := hid (Bza.out.keep hx)
    replace Vza := hid (Vza.out.keep hx)
    replace Bzb := hid (Bzb.out.keep hx)
    replace Vzb := hid (Vzb.out.keep hx)
    replace Bzc := hid (Bzc.out.keep hx)
    replace Vzc := hid (Vzc.out.keep hx)
    replace Bya := hid (Bya.out.keep hx)
    replace Vya := hid (Vya.out.keep hx)
    replace Byb := hid (Byb.out.keep hx)
    replace Vyb := hid (Vyb.out.keep hx)
    replace Byc := hid (Byc.out.keep hx)
    replace Vyc := hid (Vyc.out.keep hx)
    clear kBTk0 kBTk1 hx BTk
    go_wp2_with fail
    refine Calls.mono (HSC.out [] _ none 0 _ 0 _ rfl (by decide) RR.out (fun h => by simp [cls] at h)) ?_
    rintro e w18 ⟨rfl, hx⟩
    replace X := hid (X.out.then hx)
    replace Bza := hid (Bza.out.keep hx)
    replace Vza := hid (Vza.out.keep hx)
    replace Bzb := hid (Bzb.out.keep hx)
    replace Vzb := hid (Vzb.out.keep hx)
    replace Bzc := hid (Bzc.out.keep hx)
    replace Vzc := hid (Vzc.out.keep hx)
    replace Bya := hid (Bya.out.keep hx)
    replace Vya := hid (Vya.out.keep hx)
    replace Byb := hid (Byb.out.keep hx)
    replace Vyb := hid (Vyb.out.keep hx)
    replace Byc := hid (Byc.out.keep hx)
    replace Vyc := hid (Vyc.out.keep hx)
    clear hx
    have kBza0 := Bza.out.cell 0
    have kBza1 := Bza.out.cell 1
    have kBya0 := Bya.out.cell 0
    have kBya1 := Bya.out.cell 1
    go_wp2_with fail
    refine Calls.mono (HSM.out _ HB1.out _ _ _ Vza.out Vya.out) ?_
    rintro e w19 ⟨rfl, hx⟩
    replace X := hid (X.out.then hx)
    replace Bzb := hid (Bzb.out.keep hx)
    replace Vzb := hid (Vzb.out.keep hx)
    replace Bzc := hid (Bzc.out.keep hx)
    replace Vzc := hid (Vzc.out.keep hx)
    replace Byb := hid (Byb.out.keep hx)
    replace Vyb := hid (Vyb.out.keep hx)
    replace Byc := hid (Byc.out.keep hx)
    replace Vyc := hid (Vyc.out.keep hx)
    clear kBza0 kBza1 kBya0 kBya1 hx
    have kBzb0 := Bzb.out.cell 0
    have kBzb1 := Bzb.out.cell 1
    have kByb0 := Byb.out.cell 0
    have kByb1 := Byb.out.cell 1
    go_wp2_with fail
    refine Calls.mono (HSM.out _ HB2.out _ _ _ Vzb.out Vyb.out) ?_
    rintro e w20 ⟨rfl, hx⟩
    replace X := hid (X.out.then hx)
    replace Bzc := hid (Bzc.out.keep hx)
    replace Vzc := hid (Vzc.out.keep hx)
    replace Byc := hid (Byc.out.keep hx)
    replace Vyc := hid (Vyc.out.keep hx)
    clear kBzb0 kBzb1 kByb0 kByb1 hx
    have kBzc0 := Bzc.out.cell 0
    have kBzc1 := Bzc.out.cell 1
    have kByc0 := Byc.out.cell 0
    have kByc1 := Byc.out.cell 1
    go_wp2_with fail
    refine Calls.mono (HSM.out _ HB3.out _ _ _ Vzc.out Vyc.out) ?_
    rintro e w21 ⟨rfl, hx⟩
    replace X := hid (X.out.then hx)
    clear kBzc0 kBzc1 kByc0 kByc1 hx
    go_wp2
    go_returns
    exact ⟨rfl, X0.out.then X.out⟩
end Go.Proofs.YtolhifnlahllnaaGreatDoor
