/- TableUndone: walk (printed by gen_tkr.py). -/
import Derived.Test.YtolhifnlahllnaaDoorTkq
namespace Go.Proofs.YtolhifnlahllnaaDoor
open Go.RowKit Hy
abbrev TR (f : Nat) (args : Array Value) (w : World) (E : Int) (T : Tb.Tab) : Prop := Calls Tryd.prog f args w fun e w' => ∃ v', e = .returned (.tuple #[v', .int .i64 E]) ∧ TbL w' w.heap.size v' T ∧ Ext w w'
set_option maxHeartbeats 12800000 in
set_option maxRecDepth 100000 in
theorem tableUndone_any (t : Tb.Tab) (cs : ByteArray) (ck xk : Int) (xn : Nat) (xs n2 : ByteArray) (v : Value) (w : World) (hv : TbV w v t) (hb : TbB t) (hsc : cs.size ≤ 140737488355328) (hsn : n2.size ≤ 140737488355328) :
    Calls Tryd.prog 11 #[v, .agg #[.string cs, .int .i64 ck], .agg #[.int .i64 xk, .int .u64 (xn : Nat), .string xs], .string n2] w fun e w' => e = .returned (.bool true) ∧ Ext w w' := by
  have HB := hid hb
  obtain ⟨A, n, c, B, m, d, rfl⟩ := hv.shape
  have HV0 := hid hv
  obtain ⟨E1, hE1⟩ : ∃ E, E = Tb.addE t (cs, ck) (xk, xn, xs) := ⟨_, rfl⟩
  obtain ⟨TA, hTA⟩ : ∃ T, T = Tb.res E1 (Tb.addT t (cs, ck) (xk, xn, xs)) := ⟨_, rfl⟩
  have HADD := hid (fun v wx (hx : TbV wx v t) => show TR 33 #[v, .agg #[.string cs, .int .i64 ck], .agg #[.int .i64 xk, .int .u64 (xn : Nat), .string xs]] wx (E1 : Nat) TA from by
    have h := add_any t cs ck xk xn xs v wx hx hb hsc
    rw [← hE1, ← hTA] at h; exact h)
  have HDR := hid (fun (h0 : E1 = 0) v wx (hx : TbV wx v TA) => show TR 34 #[v, .string cs] wx 0 t from by
    subst h0
    have h1 := Tb.add_drop (hE1.symm)
    have h := drop_any TA cs v wx hx (by rw [hTA]; exact Right.B (Tb.add_right hE1.symm))
    rw [hTA] at h
    rw [show Tb.res 0 (Tb.addT t (cs, ck) (xk, xn, xs)) = Tb.addT t (cs, ck) (xk, xn, xs) from rfl, show Tb.dropE (Tb.addT t (cs, ck) (xk, xn, xs)) cs = 0 from h1.1, show Tb.dropT (Tb.addT t (cs, ck) (xk, xn, xs)) cs = t from h1.2] at h
    exact h)
  obtain ⟨E2, hE2⟩ : ∃ E, E = Tb.renE t cs n2 := ⟨_, rfl⟩
  obtain ⟨TN, hTN⟩ : ∃ T, T = Tb.res E2 (Tb.renT t cs n2) := ⟨_, rfl⟩
  have HREN := hid (fun v wx (hx : TbV wx v t) => show TR 35 #[v, .string cs, .string n2] wx (E2 : Nat) TN from by
    have h := ren_any t cs n2 v wx hx hb hsn
    rw [← hE2, ← hTN] at h; exact h)
  have HRB := hid (fun (h0 : E2 = 0) v wx (hx : TbV wx v TN) => show TR 35 #[v, .string n2, .string cs] wx 0 t from by
    subst h0
    have h1 := Tb.ren_back (hE2.symm)
    have h := ren_any TN n2 cs v wx hx (by rw [hTN]; exact Right.B (Tb.ren_right hE2.symm)) hsc
    rw [hTN] at h
    rw [show Tb.res 0 (Tb.renT t cs n2) = Tb.renT t cs n2 from rfl, h1.1, h1.2] at h
    exact h)
  have HTT := hid (fun v u wx (h1 : TbV wx v t) (h2 : TbV wx u t) => show Calls Tryd.prog 27 #[v, u] wx fun e w' => e = .returned (.bool true) ∧ Ext wx w' from by
    have h := sameT_any t t v u wx h1 h2 hb
    rw [decide_eq_true rfl] at h; exact h)
  have HTE := hid (fun (h0 : E2 ≠ 0) v wx (h1 : TbV wx v TN) => show Calls Tryd.prog 27 #[v, .agg #[.slice none 0 0, .slice none 0 0]] wx fun e w' => e = .returned (.bool true) ∧ Ext wx w' from by
    have h3 : TN = ([], []) := by rw [hTN]; exact Tb.res_no h0 _
    subst h3
    have h := sameT_any ([], []) ([], []) v _ wx h1 (tb0_V wx) ⟨by decide, by decide, fun x hx => absurd hx List.not_mem_nil, fun x hx => absurd hx List.not_mem_nil⟩
    rw [decide_eq_true rfl] at h; exact h)
  have XN := hid ((((ext_refl w).new (.cells #[.slice A n c, .slice B m d] 54)).new (.cells #[.string cs, .int .i64 ck] 73)).new (.cells #[.int .i64 xk, .int .u64 (xn : Nat), .string xs] 60))
  clear hv hb hsc hsn hE1 hTA hE2 hTN
  go_enter Tryd.func11, Tryd.ntmps11
  go_upto_region 1 with fail
  refine wp_gen (fun w' => Ext w w' ∧ Blk w' w.heap.size 54 #[.slice A n c, .slice B m d] ∧ Blk w' (w.heap.size + 1) 73 #[.string cs, .int .i64 ck] ∧ Blk w' (w.heap.size + 1 + 1) 60 #[.int .i64 xk, .int .u64 (xn : Nat), .string xs]) ⟨XN.out, ((blk_at _ _ rfl).alloc _).alloc _, (blk_at _ _ (by simp)).alloc _, blk_at _ _ (by simp)⟩ ?_
  rintro wz ⟨x0, x1, x2, x3⟩
  have X0 : Hid (Ext w wz) := hid x0
  have X : Hid (Ext wz wz) := hid (ext_refl wz)
  have BT := hid x1
  have BC := hid x2
  have BX := hid x3
  have VT := hid (HV0.out.keep x0)
  clear x0 x1 x2 x3 XN HV0
  have kBT0 := BT.out.cell 0
  have kBT1 := BT.out.cell 1
  have kBC0 := BC.out.cell 0
  have kBC1 := BC.out.cell 1
  have kBX0 := BX.out.cell 0
  have kBX1 := BX.out.cell 1
  have kBX2 := BX.out.cell 2
  go_wp2_with fail
  refine Calls.mono (HADD.out _ _ VT.out) ?_
  rintro e w1 ⟨v', rfl, hl, hx⟩
  obtain ⟨Aa, na, ca, Da, ma, da, rfl⟩ := hl.V.shape
  have HGa := hid hx.size
  have hn := Ext.new (ext_refl w1) (.cells #[.slice Aa na ca, .slice Da ma da] 54)
  have Ba := hid (Blk.new w1 54 #[.slice Aa na ca, .slice Da ma da])
  have Va := hid (hl.V.keep hn)
  have hy := Ext.then hx hn
  replace X := hid (X.out.then hy)
  clear kBT0 kBT1 kBC0 kBC1 kBX0 kBX1 kBX2 hx hl hn hy
  go_wp2_with fail
  refine Calls.mono (tableBegun_any _) ?_
  rintro e w2 ⟨rfl, hx⟩
  replace X := hid (X.out.then hx)
  replace Ba := hid (Ba.out.keep hx)
  replace Va := hid (Va.out.keep hx)
  clear  hx
  have HG := hid (show wz.heap.size ≤ w1.heap.size from HGa.out)
  clear HGa
  by_cases h1 : E1 = 0
  · have HDR2 := hid (HDR.out h1)
    subst h1
    have BTk := hid (BT.out.keep X.out)
    have BCk := hid (BC.out.keep X.out)
    have kBa0 := Ba.out.cell 0
    have kBa1 := Ba.out.cell 1
    have kBTk0 := BTk.out.cell 0
    have kBTk1 := BTk.out.cell 1
    have kBCk0 := BCk.out.cell 0
    have kBCk1 := BCk.out.cell 1
    go_wp2_with fail
    refine Calls.mono (HDR2.out _ _ Va.out) ?_
    rintro e w3 ⟨v', rfl, hl, hx⟩
    obtain ⟨Ab, nb, cb, Db, mb, db, rfl⟩ := hl.V.shape
    have hn := Ext.new (ext_refl w3) (.cells #[.slice Ab nb cb, .slice Db mb db] 54)
    have Bb := hid (Blk.new w3 54 #[.slice Ab nb cb, .slice Db mb db])
    have Vb := hid (hl.V.keep hn)
    have hy := Ext.then hx hn
    replace X := hid (X.out.then hy)
    replace Ba := hid (Ba.out.keep hy)
    clear BTk BCk kBa0 kBa1 kBTk0 kBTk1 kBCk0 kBCk1 hx hl hn hy
    have BTk := hid (BT.out.keep X.out)
    have BCk := hid (BC.out.keep X.out)
    have kBb0 := Bb.out.cell 0
    have kBb1 := Bb.out.cell 1
    have kBTk0 := BTk.out.cell 0
    have kBTk1 := BTk.out.cell 1
    go_wp2_with fail
    refine Calls.mono (HTT.out _ _ _ Vb.out (VT.out.keep X.out)) ?_
    rintro e w4 ⟨rfl, hx⟩
    replace X := hid (X.out.then hx)
    replace Ba := hid (Ba.out.keep hx)
    clear kBb0 kBb1 kBTk0 kBTk1 hx BTk BCk
    have BTk := hid (BT.out.keep X.out)
    have BCk := hid (BC.out.keep X.out)
    have kf0 := Ba.out.frozen 0
    have kf1 := Ba.out.frozen 1
    have ka0 := Ba.out.cell 0
    have ka1 := Ba.out.cell 1
    have klt := Ba.out.lt
    have kBTk0 := BTk.out.cell 0
    have kBTk1 := BTk.out.cell 1
    have kBCk0 := BCk.out.cell 0
    have kBCk1 := BCk.out.cell 1
    go_wp2_with fail
    refine Calls.mono (HREN.out _ _ (VT.out.keep X.out)) ?_
    rintro e w5 ⟨v', rfl, hl, hx⟩
    obtain ⟨Ar, nr, cr, Dr, mr, dr, rfl⟩ := hl.V.shape
    have HLR := hid hl
    have HKL := hid klt
    replace X := hid (X.out.then hx)
    replace Ba := hid (Ba.out.keep hx)
    clear kBTk0 kBTk1 kBCk0 kBCk1 hx hl klt kf0 kf1 ka0 ka1 BTk BCk
    have kf0 := Ba.out.frozen 0
    have kf1 := Ba.out.frozen 1
    have ka0 := Ba.out.cell 0
    have ka1 := Ba.out.cell 1
    go_upto_region 9 with fail
    refine wp_gen (fun w' => Ext wz w' ∧ Blk w' w1.heap.size 54 #[.slice Ar nr cr, .slice Dr mr dr] ∧ TbV w' (.agg #[.slice Ar nr cr, .slice Dr mr dr]) TN) ⟨Ext.put (Ext.put X.out (p := ⟨w1.heap.size, 0, none⟩) HG.out _) (p := ⟨w1.heap.size, 1, none⟩) HG.out _, ((Ba.out.set 0 (.slice Ar nr cr)).set 1 (.slice Dr mr dr)).cast (by simp), ((HLR.out.put (p := ⟨w1.heap.size, 0, none⟩) HKL.out _).put (p := ⟨w1.heap.size, 1, none⟩) HKL.out _).V⟩ ?_
    rintro wq ⟨x0, x1, x2⟩
    clear X Ba kf0 kf1 ka0 ka1 HLR HKL
    have X := hid x0
    have Ba := hid x1
    have Va := hid x2
    clear x0 x1 x2
    by_cases h2 : E2 = 0
    · have HRB2 := hid (HRB.out h2)
      subst h2
      clear HTE
      have BTk := hid (BT.out.keep X.out)
      have BCk := hid (BC.out.keep X.out)
      have kBa0 := Ba.out.cell 0
      have kBa1 := Ba.out.cell 1
      have kBTk0 := BTk.out.cell 0
      have kBTk1 := BTk.out.cell 1
      have kBCk0 := BCk.out.cell 0
      have kBCk1 := BCk.out.cell 1
      go_wp2_with fail
      refine Calls.mono (HRB2.out _ _ Va.out) ?_
      rintro e w6 ⟨v', rfl, hl, hx⟩
      obtain ⟨As, ns, cs, Ds, ms, ds, rfl⟩ := hl.V.shape
      have hn := Ext.new (ext_refl w6) (.cells #[.slice As ns cs, .slice Ds ms ds] 54)
      have Bs := hid (Blk.new w6 54 #[.slice As ns cs, .slice Ds ms ds])
      have Vs := hid (hl.V.keep hn)
      have hy := Ext.then hx hn
      replace X := hid (X.out.then hy)
      clear BTk BCk kBa0 kBa1 kBTk0 kBTk1 kBCk0 kBCk1 hx hl hn hy
      have BTk := hid (BT.out.keep X.out)
      have BCk := hid (BC.out.keep X.out)
      have kBs0 := Bs.out.cell 0
      have kBs1 := Bs.out.cell 1
      have kBTk0 := BTk.out.cell 0
      have kBTk1 := BTk.out.cell 1
      go_wp2_with fail
      refine Calls.mono (HTT.out _ _ _ Vs.out (VT.out.keep X.out)) ?_
      rintro e w7 ⟨rfl, hx⟩
      replace X := hid (X.out.then hx)
      clear kBs0 kBs1 kBTk0 kBTk1 hx
      go_wp2
      go_returns
      exact ⟨rfl, X0.out.then X.out⟩
    · have e1 : ((E2 : Int) == 0) = false := beq_eq_false_iff_ne.2 (by omega)
      have e2 : ((E2 : Int) != 0) = true := by simp; omega
      have HTE2 := hid (HTE.out h2)
      clear h2
      have kBa0 := Ba.out.cell 0
      have kBa1 := Ba.out.cell 1
      go_wp2_with fail
      refine Calls.mono (HTE2.out _ _ Va.out) ?_
      rintro e w7 ⟨rfl, hx⟩
      replace X := hid (X.out.then hx)
      clear kBa0 kBa1 hx
      go_wp2
      go_returns
      exact ⟨rfl, X0.out.then X.out⟩
  · have e3 : ((E1 : Int) == 0) = false := beq_eq_false_iff_ne.2 (by omega)
    have e4 : ((E1 : Int) != 0) = true := by simp; omega
    clear h1
    have BTk := hid (BT.out.keep X.out)
    have BCk := hid (BC.out.keep X.out)
    have kf0 := Ba.out.frozen 0
    have kf1 := Ba.out.frozen 1
    have ka0 := Ba.out.cell 0
    have ka1 := Ba.out.cell 1
    have klt := Ba.out.lt
    have kBTk0 := BTk.out.cell 0
    have kBTk1 := BTk.out.cell 1
    have kBCk0 := BCk.out.cell 0
    have kBCk1 := BCk.out.cell 1
    go_wp2_with fail
    refine Calls.mono (HREN.out _ _ (VT.out.keep X.out)) ?_
    rintro e w5 ⟨v', rfl, hl, hx⟩
    obtain ⟨Ar, nr, cr, Dr, mr, dr, rfl⟩ := hl.V.shape
    have HLR := hid hl
    have HKL := hid klt
    replace X := hid (X.out.then hx)
    replace Ba := hid (Ba.out.keep hx)
    clear kBTk0 kBTk1 kBCk0 kBCk1 hx hl klt kf0 kf1 ka0 ka1 BTk BCk
    have kf0 := Ba.out.frozen 0
    have kf1 := Ba.out.frozen 1
    have ka0 := Ba.out.cell 0
    have ka1 := Ba.out.cell 1
    go_upto_region 9 with fail
    refine wp_gen (fun w' => Ext wz w' ∧ Blk w' w1.heap.size 54 #[.slice Ar nr cr, .slice Dr mr dr] ∧ TbV w' (.agg #[.slice Ar nr cr, .slice Dr mr dr]) TN) ⟨Ext.put (Ext.put X.out (p := ⟨w1.heap.size, 0, none⟩) HG.out _) (p := ⟨w1.heap.size, 1, none⟩) HG.out _, ((Ba.out.set 0 (.slice Ar nr cr)).set 1 (.slice Dr mr dr)).cast (by simp), ((HLR.out.put (p := ⟨w1.heap.size, 0, none⟩) HKL.out _).put (p := ⟨w1.heap.size, 1, none⟩) HKL.out _).V⟩ ?_
    rintro wq ⟨x0, x1, x2⟩
    clear X Ba kf0 kf1 ka0 ka1 HLR HKL
    have X := hid x0
    have Ba := hid x1
    have Va := hid x2
    clear x0 x1 x2
    by_cases h2 : E2 = 0
    · have HRB2 := hid (HRB.out h2)
      subst h2
      clear HTE
      have BTk := hid (BT.out.keep X.out)
      have BCk := hid (BC.out.keep X.out)
      have kBa0 := Ba.out.cell 0
      have kBa1 := Ba.out.cell 1
      have kBTk0 := BTk.out.cell 0
      have kBTk1 := BTk.out.cell 1
      have kBCk0 := BCk.out.cell 0
      have kBCk1 := BCk.out.cell 1
      go_wp2_with fail
      refine Calls.mono (HRB2.out _ _ Va.out) ?_
      rintro e w6 ⟨v', rfl, hl, hx⟩
      obtain ⟨As, ns, cs, Ds, ms, ds, rfl⟩ := hl.V.shape
      have hn := Ext.new (ext_refl w6) (.cells #[.slice As ns cs, .slice Ds ms ds] 54)
      have Bs := hid (Blk.new w6 54 #[.slice As ns cs, .slice Ds ms ds])
      have Vs := hid (hl.V.keep hn)
      have hy := Ext.then hx hn
      replace X := hid (X.out.then hy)
      clear BTk BCk kBa0 kBa1 kBTk0 kBTk1 kBCk0 kBCk1 hx hl hn hy
      have BTk := hid (BT.out.keep X.out)
      have BCk := hid (BC.out.keep X.out)
      have kBs0 := Bs.out.cell 0
      have kBs1 := Bs.out.cell 1
      have kBTk0 := BTk.out.cell 0
      have kBTk1 := BTk.out.cell 1
      go_wp2_with fail
      refine Calls.mono (HTT.out _ _ _ Vs.out (VT.out.keep X.out)) ?_
      rintro e w7 ⟨rfl, hx⟩
      replace X := hid (X.out.then hx)
      clear kBs0 kBs1 kBTk0 kBTk1 hx
      go_wp2
      go_returns
      exact ⟨rfl, X0.out.then X.out⟩
    · have e1 : ((E2 : Int) == 0) = false := beq_eq_false_iff_ne.2 (by omega)
      have e2 : ((E2 : Int) != 0) = true := by simp; omega
      have HTE2 := hid (HTE.out h2)
      clear h2
      have kBa0 := Ba.out.cell 0
      have kBa1 := Ba.out.cell 1
      go_wp2_with fail
      refine Calls.mono (HTE2.out _ _ Va.out) ?_
      rintro e w7 ⟨rfl, hx⟩
      replace X := hid (X.out.then hx)
      clear kBa0 kBa1 hx
      go_wp2
      go_returns
      exact ⟨rfl, X0.out.then X.out⟩
end Go.Proofs.YtolhifnlahllnaaDoor
