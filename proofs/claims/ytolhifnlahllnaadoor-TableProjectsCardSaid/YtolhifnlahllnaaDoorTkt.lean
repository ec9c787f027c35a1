/- TableProjects: walk (printed by gen_tks.py). -/
import Derived.Test.YtolhifnlahllnaaDoorTkq
import Derived.Test.YtolhifnlahllnaaDoorTly
namespace Go.Proofs.YtolhifnlahllnaaDoor
open Go.RowKit Hy
abbrev TRj (f : Nat) (args : Array Value) (w : World) (E : Int) (T : Tb.Tab) : Prop := Calls Tryd.prog f args w fun e w' => ∃ v', e = .returned (.tuple #[v', .int .i64 E]) ∧ TbL w' w.heap.size v' T ∧ Ext w w'
set_option maxHeartbeats 12800000 in
set_option maxRecDepth 100000 in
theorem tableProjects_any (t : Tb.Tab) (l q : List (List UInt8)) (x y : Int) (N M : Option Addr) (nn nc mm mc : Nat) (v : Value) (w : World) (hv : TbV w v t) (hb : TbB t) (hl : l.length = nn) (hr : Rd w N (txs l)) (hnl : nn ≤ 140737488355328) (hnc : nn ≤ nc) (hq : q.length = mm) (hs : Rd w M (txs q)) (hml : mm ≤ 140737488355328) (hmc : mm ≤ mc) :
    Calls Tryd.prog 10 #[v, .slice N nn nc, .slice M mm mc, .int .i64 x, .int .i64 y] w fun e w' => e = .returned (.bool true) ∧ Ext w w' := by
  have HB := hid hb
  obtain ⟨A, n, c, B, m, d, rfl⟩ := hv.shape
  have HV0 := hid hv
  have HRN := hid hr
  have HRM := hid hs
  obtain ⟨E1, hE1⟩ : ∃ E, E = Tb.projE t (Tb.bas l) := ⟨_, rfl⟩
  have HP1 := hid (fun v wx (hx : TbV wx v t) (h2 : Rd wx N (txs l)) => show TRj 32 #[v, .slice N nn nc] wx (E1 : Nat) (Tb.res E1 (Tb.projT t (Tb.bas l))) from by
    have h := proj_any t l N nn nc v wx hx hb hl h2 hnl hnc
    rw [← hE1] at h; exact h)
  have HL := hid (⟨hl, hnl, hnc, hq, hml, hmc⟩ : l.length = nn ∧ nn ≤ 140737488355328 ∧ nn ≤ nc ∧ q.length = mm ∧ mm ≤ 140737488355328 ∧ mm ≤ mc)
  have HE1 := hid hE1
  have HTE := hid (fun (E : Nat) (T : Tb.Tab) (h0 : E ≠ 0) v wx (h1 : TbV wx v (Tb.res E T)) => show Calls Tryd.prog 27 #[v, .agg #[.slice none 0 0, .slice none 0 0]] wx fun e w' => e = .returned (.bool true) ∧ Ext wx w' from by
    rw [Tb.res_no h0] at h1
    have h := sameT_any ([], []) ([], []) v _ wx h1 (tb0_V wx) ⟨by decide, by decide, fun x hx => absurd hx List.not_mem_nil, fun x hx => absurd hx List.not_mem_nil⟩
    rw [decide_eq_true rfl] at h; exact h)
  have HSM := hid (fun (T : Tb.Tab) (hb : TbB T) v u wx (h1 : TbV wx v T) (h2 : TbV wx u T) => show Calls Tryd.prog 27 #[v, u] wx fun e w' => e = .returned (.bool true) ∧ Ext wx w' from by
    have h := sameT_any T T v u wx h1 h2 hb
    rw [decide_eq_true rfl] at h; exact h)
  have XN := hid ((ext_refl w).new (.cells #[.slice A n c, .slice B m d] 54))
  clear hv hb hl hr hnl hnc hq hs hml hmc hE1
  go_enter Tryd.func10, Tryd.ntmps10
  go_upto_region 1 with fail
  refine wp_gen (fun w' => Ext w w' ∧ Blk w' w.heap.size 54 #[.slice A n c, .slice B m d]) ⟨XN.out, blk_at _ _ rfl⟩ ?_
  rintro wz ⟨x0, x1⟩
  have X0 : Hid (Ext w wz) := hid x0
  have X : Hid (Ext wz wz) := hid (ext_refl wz)
  have BT := hid x1
  have VT := hid (HV0.out.keep x0)
  have RN := hid (HRN.out.keep x0)
  have RM := hid (HRM.out.keep x0)
  clear x0 x1 XN HV0
  have BTk := hid (BT.out.keep X.out)
  have kBTk0 := BTk.out.cell 0
  have kBTk1 := BTk.out.cell 1
  go_wp2_with fail
  refine Calls.mono (HP1.out _ _ (VT.out.keep X.out) (RN.out.keep X.out)) ?_
  rintro e w1 ⟨v', rfl, hl, hx⟩
  obtain ⟨Aa, na, ca, Da, ma, da, rfl⟩ := hl.V.shape
  have hn := Ext.new (ext_refl w1) (.cells #[.slice Aa na ca, .slice Da ma da] 54)
  have Ba := hid (Blk.new w1 54 #[.slice Aa na ca, .slice Da ma da])
  have Va := hid (hl.V.keep hn)
  have hy := Ext.then hx hn
  replace X := hid (X.out.then hy)
  clear BTk kBTk0 kBTk1 hx hl hn hy
  go_wp2_with fail
  refine Calls.mono (tableBegun_any _) ?_
  rintro e w2 ⟨rfl, hx⟩
  replace X := hid (X.out.then hx)
  replace Ba := hid (Ba.out.keep hx)
  replace Va := hid (Va.out.keep hx)
  clear  hx
  by_cases h0 : E1 = 0
  · have hpe : Tb.projE t (Tb.bas l) = 0 := HE1.out.symm.trans h0
    subst h0
    by_cases hx : x < 0
    · clear hpe HTE
      go_wp2
      go_returns
      exact ⟨rfl, X0.out.then X.out⟩
    · by_cases hy : y < 0
      · clear hpe HTE
        go_wp2
        go_returns
        exact ⟨rfl, X0.out.then X.out⟩
      · have hx0 : 0 ≤ x := by omega
        have hy0 : 0 ≤ y := by omega
        obtain ⟨TA, hTA⟩ : ∃ T, T = Tb.projT t (Tb.bas l) := ⟨_, rfl⟩
        have hR := (Tb.projE_ok.1 hpe).1
        have rA : Tb.Right TA := by rw [hTA]; exact Tb.proj_right hpe
        have HVA := hid (show TbV _ _ TA from by rw [hTA]; exact Va.out)
        have HS1 := hid (fun v wx (h1 : TbV wx v TA) => show TRj 30 #[v, .int .i64 x, .int .i64 y] wx 0 (Tb.sliceT TA x y) from by
          have h := slice_any TA x y v wx h1 (Right.B rA)
          rw [Tb.sliceE_ok.2 ⟨rA, hx0, hy0⟩] at h; exact h)
        have HS2 := hid (fun v wx (h1 : TbV wx v t) => show TRj 30 #[v, .int .i64 x, .int .i64 y] wx 0 (Tb.sliceT t x y) from by
          have h := slice_any t x y v wx h1 HB.out
          rw [Tb.sliceE_ok.2 ⟨hR, hx0, hy0⟩] at h; exact h)
        have HP2 := hid (fun v wx (h1 : TbV wx v (Tb.sliceT t x y)) (h2 : Rd wx N (txs l)) => show TRj 32 #[v, .slice N nn nc] wx 0 (Tb.sliceT TA x y) from by
          have h := proj_any (Tb.sliceT t x y) l N nn nc v wx h1 (Right.B (Tb.slice_right hR x y)) HL.out.1 h2 HL.out.2.1 HL.out.2.2.1
          rw [(Tb.proj_slice hpe x y).1, (Tb.proj_slice hpe x y).2, ← hTA] at h; exact h)
        have HB2 := hid (Right.B (Tb.slice_right rA x y))
        obtain ⟨E2, hE2⟩ : ∃ E, E = Tb.projE TA (Tb.bas q) := ⟨_, rfl⟩
        have HP3 := hid (fun v wx (h1 : TbV wx v TA) (h2 : Rd wx M (txs q)) => show TRj 32 #[v, .slice M mm mc] wx (E2 : Nat) (Tb.res E2 (Tb.projT TA (Tb.bas q))) from by
          have h := proj_any TA q M mm mc v wx h1 (Right.B rA) HL.out.2.2.2.1 h2 HL.out.2.2.2.2.1 HL.out.2.2.2.2.2
          rw [← hE2] at h; exact h)
        have HP4 := hid (fun (h0 : E2 = 0) v wx (h1 : TbV wx v t) (h2 : Rd wx M (txs q)) => show TRj 32 #[v, .slice M mm mc] wx 0 (Tb.projT TA (Tb.bas q)) from by
          have h := proj_any t q M mm mc v wx h1 HB.out HL.out.2.2.2.1 h2 HL.out.2.2.2.2.1 HL.out.2.2.2.2.2
          have hf : Tb.projE (Tb.projT t (Tb.bas l)) (Tb.bas q) = 0 := by rw [← hTA]; exact hE2.symm.trans h0
          rw [(Tb.proj_proj hpe hf).1, ← (Tb.proj_proj hpe hf).2, ← hTA] at h; exact h)
        have HB3 := hid (fun (h0 : E2 = 0) => Right.B (Tb.proj_right (hE2.symm.trans h0)))
        clear hR rA hTA hE2 hpe Va hx hy
        have kBa0 := Ba.out.cell 0
        have kBa1 := Ba.out.cell 1
        go_wp2_with fail
        refine Calls.mono (HS1.out _ _ HVA.out) ?_
        rintro e w3 ⟨v', rfl, hl, hx⟩
        obtain ⟨Ab, nb, cb, Db, mb, db, rfl⟩ := hl.V.shape
        have hn := Ext.new (ext_refl w3) (.cells #[.slice Ab nb cb, .slice Db mb db] 54)
        have Bb := hid (Blk.new w3 54 #[.slice Ab nb cb, .slice Db mb db])
        have Vb := hid (hl.V.keep hn)
        have hy := Ext.then hx hn
        replace X := hid (X.out.then hy)
        replace Ba := hid (Ba.out.keep hy)
        replace HVA := hid (HVA.out.keep hy)
        clear kBa0 kBa1 hx hl hn hy
        have BTk := hid (BT.out.keep X.out)
        have kBTk0 := BTk.out.cell 0
        have kBTk1 := BTk.out.cell 1
        go_wp2_with fail
        refine Calls.mono (HS2.out _ _ (VT.out.keep X.out)) ?_
        rintro e w4 ⟨v', rfl, hl, hx⟩
        obtain ⟨Ac, nc, cc, Dc, mc, dc, rfl⟩ := hl.V.shape
        have hn := Ext.new (ext_refl w4) (.cells #[.slice Ac nc cc, .slice Dc mc dc] 54)
        have Bc := hid (Blk.new w4 54 #[.slice Ac nc cc, .slice Dc mc dc])
        have Vc := hid (hl.V.keep hn)
        have hy := Ext.then hx hn
        replace X := hid (X.out.then hy)
        replace Ba := hid (Ba.out.keep hy)
        replace HVA := hid (HVA.out.keep hy)
        replace Bb := hid (Bb.out.keep hy)
        replace Vb := hid (Vb.out.keep hy)
        clear BTk kBTk0 kBTk1 hx hl hn hy
        have kBc0 := Bc.out.cell 0
        have kBc1 := Bc.out.cell 1
        go_wp2_with fail
        refine Calls.mono (HP2.out _ _ Vc.out (RN.out.keep X.out)) ?_
        rintro e w5 ⟨v', rfl, hl, hx⟩
        obtain ⟨Ad, nd, cd, Dd, md, dd, rfl⟩ := hl.V.shape
        have hn := Ext.new (ext_refl w5) (.cells #[.slice Ad nd cd, .slice Dd md dd] 54)
        have Bd := hid (Blk.new w5 54 #[.slice Ad nd cd, .slice Dd md dd])
        have Vd := hid (hl.V.keep hn)
        have hy := Ext.then hx hn
        replace X := hid (X.out.then hy)
        replace Ba := hid (Ba.out.keep hy)
        replace HVA := hid (HVA.out.keep hy)
        replace Bb := hid (Bb.out.keep hy)
        replace Vb := hid (Vb.out.keep hy)
        clear kBc0 kBc1 hx hl hn hy
        have kBb0 := Bb.out.cell 0
        have kBb1 := Bb.out.cell 1
        have kBd0 := Bd.out.cell 0
        have kBd1 := Bd.out.cell 1
        go_wp2_with fail
        refine Calls.mono (HSM.out _ HB2.out _ _ _ Vb.out Vd.out) ?_
        rintro e w6 ⟨rfl, hx⟩
        replace X := hid (X.out.then hx)
        replace Ba := hid (Ba.out.keep hx)
        replace HVA := hid (HVA.out.keep hx)
        clear kBb0 kBb1 kBd0 kBd1 hx
        have kBa0 := Ba.out.cell 0
        have kBa1 := Ba.out.cell 1
        go_wp2_with fail
        refine Calls.mono (HP3.out _ _ HVA.out (RM.out.keep X.out)) ?_
        rintro e w7 ⟨v', rfl, hl, hx⟩
        obtain ⟨Ax, nx, cx, Dx, mx, dx, rfl⟩ := hl.V.shape
        have hn := Ext.new (ext_refl w7) (.cells #[.slice Ax nx cx, .slice Dx mx dx] 54)
        have Bx := hid (Blk.new w7 54 #[.slice Ax nx cx, .slice Dx mx dx])
        have Vx := hid (hl.V.keep hn)
        have hy := Ext.then hx hn
        replace X := hid (X.out.then hy)
        clear kBa0 kBa1 hx hl hn hy
        by_cases h0 : E2 = 0
        · have HP5 := hid (HP4.out h0)
          have HB4 := hid (HB3.out h0)
          subst h0
          clear HTE
          have BTk := hid (BT.out.keep X.out)
          have kBTk0 := BTk.out.cell 0
          have kBTk1 := BTk.out.cell 1
          go_wp2_with fail
          refine Calls.mono (HP5.out _ _ (VT.out.keep X.out) (RM.out.keep X.out)) ?_
          rintro e w8 ⟨v', rfl, hl, hx⟩
          obtain ⟨Ay, ny, cy, Dy, my, dy, rfl⟩ := hl.V.shape
          have hn := Ext.new (ext_refl w8) (.cells #[.slice Ay ny cy, .slice Dy my dy] 54)
          have By := hid (Blk.new w8 54 #[.slice Ay ny cy, .slice Dy my dy])
          have Vy := hid (hl.V.keep hn)
          have hy := Ext.then hx hn
          replace X := hid (X.out.then hy)
          replace Bx := hid (Bx.out.keep hy)
          replace Vx := hid (Vx.out.keep hy)
          clear BTk kBTk0 kBTk1 hx hl hn hy
          have kBx0 := Bx.out.cell 0
          have kBx1 := Bx.out.cell 1
          have kBy0 := By.out.cell 0
          have kBy1 := By.out.cell 1
          go_wp2_with fail
          refine Calls.mono (HSM.out (Tb.projT TA (Tb.bas q)) HB4.out _ _ _ Vx.out Vy.out) ?_
          rintro e w9 ⟨rfl, hx⟩
          replace X := hid (X.out.then hx)
          clear kBx0 kBx1 kBy0 kBy1 hx
          go_wp2
          go_returns
          exact ⟨rfl, X0.out.then X.out⟩
        · have e1 : ((E2 : Int) == 0) = false := beq_eq_false_iff_ne.2 (by omega)
          have e2 : ((E2 : Int) != 0) = true := by simp; omega
          have HTE2 := hid (HTE.out E2 (Tb.projT TA (Tb.bas q)) h0)
          clear h0
          have kBx0 := Bx.out.cell 0
          have kBx1 := Bx.out.cell 1
          go_wp2_with fail
          refine Calls.mono (HTE2.out _ _ Vx.out) ?_
          rintro e w8 ⟨rfl, hx⟩
          replace X := hid (X.out.then hx)
          clear kBx0 kBx1 hx
          go_wp2
          go_returns
          exact ⟨rfl, X0.out.then X.out⟩
  · have e1 : ((E1 : Int) == 0) = false := beq_eq_false_iff_ne.2 (by omega)
    have e2 : ((E1 : Int) != 0) = true := by simp; omega
    have HTE2 := hid (HTE.out E1 (Tb.projT t (Tb.bas l)) h0)
    clear h0
    have kBa0 := Ba.out.cell 0
    have kBa1 := Ba.out.cell 1
    go_wp2_with fail
    refine Calls.mono (HTE2.out _ _ Va.out) ?_
    rintro e w3 ⟨rfl, hx⟩
    replace X := hid (X.out.then hx)
    clear kBa0 kBa1 hx
    go_wp2
    go_returns
    exact ⟨rfl, X0.out.then X.out⟩
end Go.Proofs.YtolhifnlahllnaaDoor
