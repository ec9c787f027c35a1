/- TableParts: walk (printed by gen_tks.py). -/
import Derived.Test.YtolhifnlahllnaaDoorTkq
import Derived.Test.YtolhifnlahllnaaDoorTly
namespace Go.Proofs.YtolhifnlahllnaaDoor
open Go.RowKit Hy
abbrev TRp (f : Nat) (args : Array Value) (w : World) (E : Int) (T : Tb.Tab) : Prop := Calls Tryd.prog f args w fun e w' => ∃ v', e = .returned (.tuple #[v', .int .i64 E]) ∧ TbL w' w.heap.size v' T ∧ Ext w w'
set_option maxHeartbeats 12800000 in
set_option maxRecDepth 100000 in
theorem tableParts_any (t : Tb.Tab) (k : Int) (p : List Cnd) (P : Option Addr) (np pcap : Nat) (v : Value) (w : World) (hv : TbV w v t) (hb : TbB t) (hpn : p.length = np) (hp : Rd w P (cns p)) (hnl : np ≤ 140737488355328) :
    Calls Tryd.prog 9 #[v, .int .i64 k, .slice P np pcap] w fun e w' => e = .returned (.bool true) ∧ Ext w w' := by
  have HB := hid hb
  obtain ⟨A, n, c, B, m, d, rfl⟩ := hv.shape
  have HV0 := hid hv
  obtain ⟨C, hC⟩ : ∃ C, C = Tb.tbck t := ⟨_, rfl⟩
  have HCK := hid (fun v wx (hx : TbV wx v t) => show Calls Tryd.prog 29 #[v] wx fun e w' => e = .returned (.int .i64 (C : Nat)) ∧ Ext wx w' from by
    have h := tcheck_any t v wx hx hb
    rw [← hC] at h; exact h)
  have HR := hid (fun (h : C = 0) => (Tb.right_iff t).1 (hC.symm.trans h))
  have HP := hid hp
  have HPN := hid hpn; have HPL := hid hnl
  have HTE := hid (fun (E : Nat) (T : Tb.Tab) (h0 : E ≠ 0) v wx (h1 : TbV wx v (Tb.res E T)) => show Calls Tryd.prog 27 #[v, .agg #[.slice none 0 0, .slice none 0 0]] wx fun e w' => e = .returned (.bool true) ∧ Ext wx w' from by
    rw [Tb.res_no h0] at h1
    have h := sameT_any ([], []) ([], []) v _ wx h1 (tb0_V wx) ⟨by decide, by decide, fun x hx => absurd hx List.not_mem_nil, fun x hx => absurd hx List.not_mem_nil⟩
    rw [decide_eq_true rfl] at h; exact h)
  have HSM := hid (fun (T : Tb.Tab) (hb : TbB T) v u wx (h1 : TbV wx v T) (h2 : TbV wx u T) => show Calls Tryd.prog 27 #[v, u] wx fun e w' => e = .returned (.bool true) ∧ Ext wx w' from by
    have h := sameT_any T T v u wx h1 h2 hb
    rw [decide_eq_true rfl] at h; exact h)
  have XN := hid ((ext_refl w).new (.cells #[.slice A n c, .slice B m d] 54))
  clear hv hb hpn hp hnl hC
  go_enter Tryd.func9, Tryd.ntmps9
  go_upto_region 1 with fail
  refine wp_gen (fun w' => Ext w w' ∧ Blk w' w.heap.size 54 #[.slice A n c, .slice B m d]) ⟨XN.out, blk_at _ _ rfl⟩ ?_
  rintro wz ⟨x0, x1⟩
  have X0 : Hid (Ext w wz) := hid x0
  have X : Hid (Ext wz wz) := hid (ext_refl wz)
  have BT := hid x1
  have VT := hid (HV0.out.keep x0)
  have HPZ := hid (HP.out.keep x0)
  clear x0 x1 XN HV0
  go_wp2_with fail
  refine Calls.mono (tableBegun_any _) ?_
  rintro e w1 ⟨rfl, hx⟩
  replace X := hid (X.out.then hx)
  clear  hx
  have BTk := hid (BT.out.keep X.out)
  have kBTk0 := BTk.out.cell 0
  have kBTk1 := BTk.out.cell 1
  go_wp2_with fail
  refine Calls.mono (HCK.out _ _ (VT.out.keep X.out)) ?_
  rintro e w2 ⟨rfl, hx⟩
  replace X := hid (X.out.then hx)
  clear BTk kBTk0 kBTk1 hx
  by_cases h0 : C = 0
  · have hR := HR.out h0
    subst h0
    by_cases hk : k < 0
    · clear hR HTE HSM
      go_wp2
      go_returns
      exact ⟨rfl, X0.out.then X.out⟩
    · have hk0 : 0 ≤ k := by omega
      obtain ⟨TA, hTA⟩ : ∃ T, T = Tb.sliceT t 0 k := ⟨_, rfl⟩
      obtain ⟨TB, hTB⟩ : ∃ T, T = Tb.sliceT t k 128 := ⟨_, rfl⟩
      have rA : Tb.Right TA := by rw [hTA]; exact Tb.slice_right hR _ _
      have rB : Tb.Right TB := by rw [hTB]; exact Tb.slice_right hR _ _
      have HS1 := hid (fun v wx (hx : TbV wx v t) => show TRp 30 #[v, .int .i64 0, .int .i64 k] wx 0 TA from by
        have h := slice_any t 0 k v wx hx HB.out
        rw [Tb.sliceE_ok.2 ⟨hR, by omega, hk0⟩] at h; rw [hTA]; exact h)
      have HS2 := hid (fun v wx (hx : TbV wx v t) => show TRp 30 #[v, .int .i64 k, .int .i64 128] wx 0 TB from by
        have h := slice_any t k 128 v wx hx HB.out
        rw [Tb.sliceE_ok.2 ⟨hR, hk0, by omega⟩] at h; rw [hTB]; exact h)
      have HAP := hid (fun v u wx (hx : TbV wx v TA) (hy : TbV wx u TB) => show TRp 31 #[v, u] wx 0 t from by
        have h := app_any TA TB u v wx hx (Right.B rA) hy (Right.B rB)
        rw [hTA, hTB, (Tb.parts_app hR hk0).1, (Tb.parts_app hR hk0).2] at h; exact h)
      obtain ⟨E, hE⟩ : ∃ E, E = Tb.keepE t p := ⟨_, rfl⟩
      have HK0 := hid (fun v wx (hx : TbV wx v t) (hq : Rd wx P (cns p)) => show TRp 25 #[v, .slice P np pcap] wx (E : Nat) (Tb.res E (Tb.keepT t p)) from by
        have h := keep_any t p P np pcap v wx hx HB.out HPN.out hq HPL.out
        rw [← hE] at h; exact h)
      have HKA := hid (fun (h0 : E = 0) v wx (hx : TbV wx v TA) (hq : Rd wx P (cns p)) => show TRp 25 #[v, .slice P np pcap] wx 0 (Tb.keepT TA p) from by
        have h := keep_any TA p P np pcap v wx hx (Right.B rA) HPN.out hq HPL.out
        rw [Tb.keepE_ok.2 ⟨rA, by rw [hTA]; exact (Tb.keepE_ok.1 (hE.symm.trans h0)).2⟩] at h; exact h)
      have HKB := hid (fun (h0 : E = 0) v wx (hx : TbV wx v TB) (hq : Rd wx P (cns p)) => show TRp 25 #[v, .slice P np pcap] wx 0 (Tb.keepT TB p) from by
        have h := keep_any TB p P np pcap v wx hx (Right.B rB) HPN.out hq HPL.out
        rw [Tb.keepE_ok.2 ⟨rB, by rw [hTB]; exact (Tb.keepE_ok.1 (hE.symm.trans h0)).2⟩] at h; exact h)
      have HAQ := hid (fun v u wx (hx : TbV wx v (Tb.keepT TA p)) (hy : TbV wx u (Tb.keepT TB p)) => show TRp 31 #[v, u] wx 0 (Tb.keepT t p) from by
        have h := app_any (Tb.keepT TA p) (Tb.keepT TB p) u v wx hx (Right.B (Tb.keep_right rA)) hy (Right.B (Tb.keep_right rB))
        rw [hTA, hTB, (Tb.parts_keep hR hk0 p).1, (Tb.parts_keep hR hk0 p).2] at h; exact h)
      have HBK := hid (Right.B (Tb.keep_right (p := p) hR))
      clear hR rA rB hTA hTB hE hk
      have BTk := hid (BT.out.keep X.out)
      have kBTk0 := BTk.out.cell 0
      have kBTk1 := BTk.out.cell 1
      go_wp2_with fail
      refine Calls.mono (HS1.out _ _ (VT.out.keep X.out)) ?_
      rintro e w3 ⟨v', rfl, hl, hx⟩
      obtain ⟨Aa, na, ca, Da, ma, da, rfl⟩ := hl.V.shape
      have hn := Ext.new (ext_refl w3) (.cells #[.slice Aa na ca, .slice Da ma da] 54)
      have Ba := hid (Blk.new w3 54 #[.slice Aa na ca, .slice Da ma da])
      have Va := hid (hl.V.keep hn)
      have hy := Ext.then hx hn
      replace X := hid (X.out.then hy)
      clear BTk kBTk0 kBTk1 hx hl hn hy
      have BTk := hid (BT.out.keep X.out)
      have kBTk0 := BTk.out.cell 0
      have kBTk1 := BTk.out.cell 1
      go_wp2_with fail
      refine Calls.mono (HS2.out _ _ (VT.out.keep X.out)) ?_
      rintro e w4 ⟨v', rfl, hl, hx⟩
      obtain ⟨Ab, nb, cb, Db, mb, db, rfl⟩ := hl.V.shape
      have hn := Ext.new (ext_refl w4) (.cells #[.slice Ab nb cb, .slice Db mb db] 54)
      have Bb := hid (Blk.new w4 54 #[.slice Ab nb cb, .slice Db mb db])
      have Vb := hid (hl.V.keep hn)
      have hy := Ext.then hx hn
      replace X := hid (X.out.then hy)
      replace Ba := hid (Ba.out.keep hy)
      replace Va := hid (Va.out.keep hy)
      clear BTk kBTk0 kBTk1 hx hl hn hy
      have kBa0 := Ba.out.cell 0
      have kBa1 := Ba.out.cell 1
      have kBb0 := Bb.out.cell 0
      have kBb1 := Bb.out.cell 1
      go_wp2_with fail
      refine Calls.mono (HAP.out _ _ _ Va.out Vb.out) ?_
      rintro e w5 ⟨v', rfl, hl, hx⟩
      obtain ⟨Ac, nc, cc, Dc, mc, dc, rfl⟩ := hl.V.shape
      have hn := Ext.new (ext_refl w5) (.cells #[.slice Ac nc cc, .slice Dc mc dc] 54)
      have Bc := hid (Blk.new w5 54 #[.slice Ac nc cc, .slice Dc mc dc])
      have Vc := hid (hl.V.keep hn)
      have hy := Ext.then hx hn
      replace X := hid (X.out.then hy)
      replace Ba := hid (Ba.out.keep hy)
      replace Va := hid (Va.out.keep hy)
      replace Bb := hid (Bb.out.keep hy)
      replace Vb := hid (Vb.out.keep hy)
      clear kBa0 kBa1 kBb0 kBb1 hx hl hn hy
      have BTk := hid (BT.out.keep X.out)
      have kBc0 := Bc.out.cell 0
      have kBc1 := Bc.out.cell 1
      have kBTk0 := BTk.out.cell 0
      have kBTk1 := BTk.out.cell 1
      go_wp2_with fail
      refine Calls.mono (HSM.out _ HB.out _ _ _ Vc.out (VT.out.keep X.out)) ?_
      rintro e w6 ⟨rfl, hx⟩
      replace X := hid (X.out.then hx)
      replace Ba := hid (Ba.out.keep hx)
      replace Va := hid (Va.out.keep hx)
      replace Bb := hid (Bb.out.keep hx)
      replace Vb := hid (Vb.out.keep hx)
      clear BTk kBc0 kBc1 kBTk0 kBTk1 hx
      have BTk := hid (BT.out.keep X.out)
      have kBTk0 := BTk.out.cell 0
      have kBTk1 := BTk.out.cell 1
      go_wp2_with fail
      refine Calls.mono (HK0.out _ _ (VT.out.keep X.out) (HPZ.out.keep X.out)) ?_
      rintro e w7 ⟨v', rfl, hl, hx⟩
      obtain ⟨Ad, nd, cd, Dd, md, dd, rfl⟩ := hl.V.shape
      have hn := Ext.new (ext_refl w7) (.cells #[.slice Ad nd cd, .slice Dd md dd] 54)
      have Bd := hid (Blk.new w7 54 #[.slice Ad nd cd, .slice Dd md dd])
      have Vd := hid (hl.V.keep hn)
      have hy := Ext.then hx hn
      replace X := hid (X.out.then hy)
      replace Ba := hid (Ba.out.keep hy)
      replace Va := hid (Va.out.keep hy)
      replace Bb := hid (Bb.out.keep hy)
      replace Vb := hid (Vb.out.keep hy)
      clear BTk kBTk0 kBTk1 hx hl hn hy
      by_cases h0 : E = 0
      · have HKA2 := hid (HKA.out h0)
        have HKB2 := hid (HKB.out h0)
        subst h0
        clear HTE
        have kBa0 := Ba.out.cell 0
        have kBa1 := Ba.out.cell 1
        go_wp2_with fail
        refine Calls.mono (HKA2.out _ _ Va.out (HPZ.out.keep X.out)) ?_
        rintro e w8 ⟨v', rfl, hl, hx⟩
        obtain ⟨Ax, nx, cx, Dx, mx, dx, rfl⟩ := hl.V.shape
        have hn := Ext.new (ext_refl w8) (.cells #[.slice Ax nx cx, .slice Dx mx dx] 54)
        have Bx := hid (Blk.new w8 54 #[.slice Ax nx cx, .slice Dx mx dx])
        have Vx := hid (hl.V.keep hn)
        have hy := Ext.then hx hn
        replace X := hid (X.out.then hy)
        replace Bb := hid (Bb.out.keep hy)
        replace Vb := hid (Vb.out.keep hy)
        replace Bd := hid (Bd.out.keep hy)
        replace Vd := hid (Vd.out.keep hy)
        clear kBa0 kBa1 hx hl hn hy
        have kBb0 := Bb.out.cell 0
        have kBb1 := Bb.out.cell 1
        go_wp2_with fail
        refine Calls.mono (HKB2.out _ _ Vb.out (HPZ.out.keep X.out)) ?_
        rintro e w9 ⟨v', rfl, hl, hx⟩
        obtain ⟨Ay, ny, cy, Dy, my, dy, rfl⟩ := hl.V.shape
        have hn := Ext.new (ext_refl w9) (.cells #[.slice Ay ny cy, .slice Dy my dy] 54)
        have By := hid (Blk.new w9 54 #[.slice Ay ny cy, .slice Dy my dy])
        have Vy := hid (hl.V.keep hn)
        have hy := Ext.then hx hn
        replace X := hid (X.out.then hy)
        replace Bx := hid (Bx.out.keep hy)
        replace Vx := hid (Vx.out.keep hy)
        replace Bd := hid (Bd.out.keep hy)
        replace Vd := hid (Vd.out.keep hy)
        clear kBb0 kBb1 hx hl hn hy
        have kBx0 := Bx.out.cell 0
        have kBx1 := Bx.out.cell 1
        have kBy0 := By.out.cell 0
        have kBy1 := By.out.cell 1
        go_wp2_with fail
        refine Calls.mono (HAQ.out _ _ _ Vx.out Vy.out) ?_
        rintro e w10 ⟨v', rfl, hl, hx⟩
        obtain ⟨Az, nz, cz, Dz, mz, dz, rfl⟩ := hl.V.shape
        have hn := Ext.new (ext_refl w10) (.cells #[.slice Az nz cz, .slice Dz mz dz] 54)
        have Bz := hid (Blk.new w10 54 #[.slice Az nz cz, .slice Dz mz dz])
        have Vz := hid (hl.V.keep hn)
        have hy := Ext.then hx hn
        replace X := hid (X.out.then hy)
        replace Bd := hid (Bd.out.keep hy)
        replace Vd := hid (Vd.out.keep hy)
        clear kBx0 kBx1 kBy0 kBy1 hx hl hn hy
        have kBz0 := Bz.out.cell 0
        have kBz1 := Bz.out.cell 1
        have kBd0 := Bd.out.cell 0
        have kBd1 := Bd.out.cell 1
        go_wp2_with fail
        refine Calls.mono (HSM.out (Tb.keepT t p) HBK.out _ _ _ Vz.out Vd.out) ?_
        rintro e w11 ⟨rfl, hx⟩
        replace X := hid (X.out.then hx)
        clear kBz0 kBz1 kBd0 kBd1 hx
        go_wp2
        go_returns
        exact ⟨rfl, X0.out.then X.out⟩
      · have e1 : ((E : Int) == 0) = false := beq_eq_false_iff_ne.2 (by omega)
        have e2 : ((E : Int) != 0) = true := by simp; omega
        have HTE2 := hid (HTE.out E (Tb.keepT t p) h0)
        clear h0
        have kBd0 := Bd.out.cell 0
        have kBd1 := Bd.out.cell 1
        go_wp2_with fail
        refine Calls.mono (HTE2.out _ _ Vd.out) ?_
        rintro e w8 ⟨rfl, hx⟩
        replace X := hid (X.out.then hx)
        clear kBd0 kBd1 hx
        go_wp2
        go_returns
        exact ⟨rfl, X0.out.then X.out⟩
  · have e1 : ((C : Int) == 0) = false := beq_eq_false_iff_ne.2 (by omega)
    have e2 : ((C : Int) != 0) = true := by simp; omega
    clear h0
    go_wp2
    go_returns
    exact ⟨rfl, X0.out.then X.out⟩
end Go.Proofs.YtolhifnlahllnaaDoor
