/- Files: rename: walk (printed by gen_fsy.py). -/
import Derived.Test.YtolhifnlahllnaaDoorFsx
import Derived.Test.YtolhifnlahllnaaDoorGhl
namespace Hy.Fs
open Go
theorem ens_setE (l : List Ent) (k : Nat) (h : k < l.length) (s : ByteArray) (y : Int) : ((ens l).set (k * 2) (.string s)).set (k * 2 + 1) (.int .i64 y) = ens (l.set k (s, y)) := by
  induction l generalizing k with
  | nil => simp at h
  | cons x r ih =>
    cases k with
    | zero => rfl
    | succ k =>
      have h' : k < r.length := by simpa using h
      have e2 : (k + 1) * 2 = (k * 2) + 2 := by omega
      have := ih k h'
      simp only [ens, List.flatMap_cons, ent2, List.cons_append, List.nil_append, List.set_cons_succ, e2] at this ⊢
      rw [this]
end Hy.Fs
namespace Go.Proofs.YtolhifnlahllnaaDoor
open Go.RowKit Hy
set_option maxHeartbeats 1600000 in
set_option maxRecDepth 100000 in
theorem rename_old (f : Fs.FSy) (s tt : ByteArray) (base g : Nat) (w : World) (hdk : Dsk w base g f) (hbw : base ≤ w.heap.size) (h24 : f.1.length ≤ 24) (hgd : Fs.Good f.1.length f.2.1) (hs : s.data.toList ∈ Fs.nms f.2.1) (hto : tt.data.toList ∈ Fs.nms (Fs.wout f.2.1 s)) :
    Calls Tryd.prog 94 #[.pointer (some ⟨g, 0, none⟩), .int .i64 ((Dct.plc (Fs.nms f.2.1) s.data.toList : Nat) : Int), .string tt] w fun e w' => e = .returned (.tuple #[]) ∧ Dsk w' base g (f.1, Fs.wth (Fs.wout f.2.1 s) (tt, Fs.nof f.2.1 s), f.2.2) ∧ Below base w w' := by
  obtain ⟨NL, DL, SL⟩ := f
  obtain ⟨A1, c1, A2, c2, A3, c3, hb, hbg, o1, o2, o3, hdj⟩ := hdk
  simp only at hb o1 o2 o3 h24 hgd hs hto
  simp only
  obtain ⟨n, hn⟩ : ∃ n, n = NL.length := ⟨_, rfl⟩
  obtain ⟨m, hm⟩ : ∃ m, m = DL.length := ⟨_, rfl⟩
  obtain ⟨q, hq⟩ : ∃ q, q = SL.length := ⟨_, rfl⟩
  have hmn := Fs.good_len hgd
  rw [← hn] at hb o1 h24 hgd hmn
  rw [← hm] at hb o2 hmn
  rw [← hq] at hb o3
  obtain ⟨hk, hke, hkn⟩ := Fs.nof_at hgd.2.1 hs
  have hD1 := Fs.wout_yes hgd.2.1 hs
  have hG1 := Fs.wout_good hgd s
  obtain ⟨D1, hD1e⟩ : ∃ D, D = Fs.wout DL s := ⟨_, rfl⟩
  rw [← hD1e] at hD1 hG1 hto ⊢
  obtain ⟨i, hi⟩ : ∃ i, i = Dct.plc (Fs.nms DL) s.data.toList := ⟨_, rfl⟩
  obtain ⟨x, hx⟩ : ∃ x, x = Fs.nof DL s := ⟨_, rfl⟩
  have him : i < m := by rw [hi, hm]; exact hk
  obtain ⟨g2, rfl⟩ := own_some o2 (by omega)
  obtain ⟨b3, o3', e3, l3, c3'⟩ := (own_rd o2).1.ents _ hk
  cases e3
  have d0 := (c3' _ hk).1
  have d1 := (c3' _ hk).2
  rw [hke] at d0
  rw [← hkn] at d1
  rw [← hi] at d0 d1 hD1 ⊢
  rw [← hx] at d1 ⊢
  rw [Nat.zero_add] at d0 d1
  obtain ⟨j, hj⟩ : ∃ j, j + 1 = m := ⟨m - 1, by omega⟩
  have HDEL := hid (fun (wx : World) (o : wx.ownsRow base 47 2 (.slice (some ⟨g2, 0, none⟩) m c2) m (ens DL)) => deleteE_any DL (some ⟨g2, 0, none⟩) m c2 i base ((i : Int) + 1) wx rfl j hj hm.symm o him (by omega))
  rw [← hD1] at HDEL
  have hjl : D1.length = j := by rw [hD1, List.length_append, List.length_take, List.length_drop]; omega
  have HJ := hid hj
  have HJL := hid hjl
  have HAT := hid (fun (wx : World) (o : wx.ownsRow base 47 2 (.slice (some ⟨g2, 0, none⟩) j c2) j (ens D1)) => at_any D1 (some ⟨g2, 0, none⟩) j c2 tt wx hjl (own_rd o).1 (by omega) hG1.2.1)
  have HN := hid hn; have HM := hid hm; have HQ := hid hq
  have HB := hid hb; have HO1 := hid o1; have HO2 := hid o2; have HO3 := hid o3
  have HBG := hid hbg; have HBW := hid hbw; have HDJ := hid hdj
  have himI : (i : Int) < (m : Int) := by omega
  have hiI : (i : Int) ≤ 24 := by omega
  have HN12 := hid (show (Value.slice A1 n c1).ownBlock = none ∨ (Value.slice A1 n c1).ownBlock ≠ some g2 from own_ne o1 o2 (by decide))
  have HN1g := hid (own_nblk o1 hb (by decide))
  have HN3g := hid (own_nblk o3 hb (by decide))
  have HG2 := hid (show g2 ≠ g from fun e => own_nblk o2 hb (by decide) (by rw [← e]; rfl))
  have HG2L := hid (show base ≤ g2 ∧ g2 < w.heap.size from own_block_rng o2 rfl)
  have HGL := hid hb.lt
  have HD32 := hid (show (Value.slice A3 q c3).ownBlock = none ∨ (Value.slice A3 q c3).ownBlock ≠ some g2 from by
    cases A3 with
    | none => exact .inl rfl
    | some a3 => right; intro e; have e := Option.some.inj e; exact hdj ⟨g2, 0, none⟩ a3 rfl rfl e.symm)
  have HN1T := hid (show (Value.slice A1 n c1).ownBlock ≠ some w.heap.size from fun e => by have h := (own_block_rng o1 e).2; omega)
  have HN3T := hid (show (Value.slice A3 q c3).ownBlock ≠ some w.heap.size from fun e => by have h := (own_block_rng o3 e).2; omega)
  have HM24 := hid (show m ≤ 24 by omega)
  rw [decide_eq_true hto] at HAT
  obtain ⟨hpl, hpe⟩ := Fs.at_plc hG1.2.1 hto
  have HWT := hid (Fs.wth_yes hG1.2.1 (x := (tt, x)) hto)
  obtain ⟨p, hp⟩ : ∃ p, p = Dct.plc (Fs.nms D1) tt.data.toList := ⟨_, rfl⟩
  rw [← hp] at HAT
  have HWK := hid (show Fs.wth D1 (tt, x) = D1.set p (tt, x) by rw [hp]; exact HWT.out)
  have hpj : p < j := by rw [hp, ← hjl]; exact hpl
  have hpI : (p : Int) < (j : Int) := by omega
  have HPJ := hid hpj
  clear hpl hpe HWT hp hpj hto
  clear hn hm hq hmn hb hbg o1 o2 o3 hdj hbw h24 hgd hs hk hke hkn hD1 hG1 hD1e hi hx him l3 c3' hj hjl
  have HN2g := hid (show (Value.slice (some ⟨g2, 0, none⟩) j c2).ownBlock ≠ some g from fun e => HG2.out (Option.some.inj e))
  have HN2T := hid (show (Value.slice (some ⟨g2, 0, none⟩) j c2).ownBlock ≠ some w.heap.size from fun e => by have h := HG2L.out.2; have e := Option.some.inj e; simp only at e; omega)
  have hTg : ¬ w.heap.size = g := fun e => by have h := HGL.out; omega
  have hgT : ¬ g = w.heap.size := fun e => by have h := HGL.out; omega
  go_enter Tryd.func94, Tryd.ntmps94
  have lg : g < w.heap.size := HGL.out
  have g1 := HB.out.cell 1
  go_wp2_with (first | (go_at_call 95; go_loud (refine Calls.mono (HDEL.out _ (own_ext HO2.out (Ext.new (ext_refl _) _))) ?_; rintro e w2 ⟨rfl, r2, r3⟩; have B2 := hid (Blk.grown (HB.out.alloc _) r3 (show (some g2 : Option Nat) ≠ some g from fun e => HG2.out (Option.some.inj e))); have T2 := hid (Blk.grown (Blk.new w 47 #[.string s, .int .i64 x]) r3 (show (some g2 : Option Nat) ≠ some w.heap.size from fun e => by have h := HG2L.out.2; have e := Option.some.inj e; omega)); have P1 := hid ((own_ext HO1.out (Ext.new (ext_refl _) _)).kept r3 HN12.out); have P3 := hid ((own_ext HO3.out (Ext.new (ext_refl _) _)).kept r3 HD32.out); have P2 := hid r2; have W2 := hid (Below.grown (Below.mono (Ext.new (ext_refl w) (.cells #[.string s, .int .i64 x] 47)) HBW.out) r3 (Nat.le_trans HBW.out (size_new _ _)) (fun k hk => by have hk := Option.some.inj hk; have := HG2L.out.1; simp only at hk; omega)); have W2S := hid (Nat.le_trans (size_new w (.cells #[.string s, .int .i64 x] 47)) r3.size); have g1' := B2.out.cell 1; have hf1 := B2.out.frozen 1; have t0 := T2.out.cell 0; have t1 := T2.out.cell 1; have ht0 := T2.out.frozen 0; clear r2 r3 g1)) | (go_at_call 36; go_loud (refine Calls.mono (HAT.out _ (own_put (own_put P2.out (p := ⟨g, 1, none⟩) HN2g.out _) (p := ⟨w.heap.size, 0, none⟩) HN2T.out _)) ?_; rintro e w4 ⟨rfl, x4⟩; have B4 := hid (((B2.out.set 1 (.slice (some ⟨g2, 0, none⟩) j c2)).far (p := ⟨w.heap.size, 0, none⟩) hgT (.string tt)).keep x4); have T4 := hid (((T2.out.far (p := ⟨g, 1, none⟩) hTg (.slice (some ⟨g2, 0, none⟩) j c2)).set 0 (.string tt)).keep x4); have Q1 := hid (own_ext (own_put (own_put P1.out (p := ⟨g, 1, none⟩) HN1g.out _) (p := ⟨w.heap.size, 0, none⟩) HN1T.out _) x4); have Q2 := hid (own_ext (own_put (own_put P2.out (p := ⟨g, 1, none⟩) HN2g.out _) (p := ⟨w.heap.size, 0, none⟩) HN2T.out _) x4); have Q3 := hid (own_ext (own_put (own_put P3.out (p := ⟨g, 1, none⟩) HN3g.out _) (p := ⟨w.heap.size, 0, none⟩) HN3T.out _) x4); have W4 := hid (Below.trans (Below.setCell (Below.setCell W2.out HBG.out (p := ⟨g, 1, none⟩) (.slice (some ⟨g2, 0, none⟩) j c2)) HBW.out (p := ⟨w.heap.size, 0, none⟩) (.string tt)) (Below.mono x4 (by rw [size_put, size_put]; exact Nat.le_trans HBW.out W2S.out))); have S4 := hid (show w.heap.size + 1 ≤ w4.heap.size by have h := T4.out.lt; omega); have k0 := B4.out.cell 0; have k1 := B4.out.cell 1; have k2 := B4.out.cell 2; have u0 := T4.out.cell 0; have u1 := T4.out.cell 1; have hk1 := B4.out.frozen 1; clear x4 g1' hf1 t0 t1 ht0)))
  have hjm : p < D1.length := by rw [HJL.out]; exact HPJ.out
  obtain ⟨b5, o5, e5, l5, c5⟩ := (own_rd Q2.out).1.ents p hjm
  cases e5
  have v0 := (c5 p hjm).1
  have v1 := (c5 p hjm).2
  rw [Nat.zero_add] at v0 v1
  obtain ⟨cur, hcur⟩ := own_block Q2.out
  have hv0 := hcur.frozen (p * 2)
  have hv1 := hcur.frozen (p * 2 + 1)
  have HSE := hid (show ((ens D1).set (p * 2) (.string tt)).set (p * 2 + 1) (.int .i64 x) = ens (D1.set p (tt, x)) from Fs.ens_setE D1 p hjm tt x)
  have HSL := hid (show (D1.set p (tt, x)).length = j by rw [List.length_set, HJL.out])
  generalize D1[p].1 = va at v0
  generalize D1[p].2 = vb at v1
  have hN1b := hid (show (Value.slice A1 n c1).ownBlock ≠ some g2 from fun e => by
    rcases HN12.out with h | h
    · rw [h] at e; cases e
    · exact h e)
  have hN3b := hid (show (Value.slice A3 q c3).ownBlock ≠ some g2 from fun e => by
    rcases HD32.out with h | h
    · rw [h] at e; cases e
    · exact h e)
  clear hjm c5 l5 hcur
  go_still_tail 8, (by kernel_rfl)
  change wpList _ _ _ _ _ w4.drew
  go_wp2
  go_returns
  refine ⟨rfl, Dsk.ext ⟨A1, c1, some ⟨g2, 0, none⟩, c2, A3, c3, ?_, HBG.out, ?_, ?_, ?_, HDJ.out⟩ (ext_refl _).draw, Below.drew (Below.setCell (Below.setCell W4.out (p := ⟨g2, p * 2, none⟩) HG2L.out.1 (.string tt)) (p := ⟨g2, p * 2 + 1, none⟩) HG2L.out.1 (.int .i64 x))⟩
  · simp only; rw [HWK.out, HSL.out, ← HN.out, ← HQ.out]; exact ((B4.out.far (p := ⟨g2, p * 2, none⟩) (Ne.symm HG2.out) (.string tt)).far (p := ⟨g2, p * 2 + 1, none⟩) (Ne.symm HG2.out) (.int .i64 x)).cast (by simp)
  · simp only; rw [← HN.out]; exact own_put (own_put Q1.out (p := ⟨g2, p * 2, none⟩) hN1b.out _) (p := ⟨g2, p * 2 + 1, none⟩) hN1b.out _
  · simp only; rw [HWK.out, HSL.out, ← HSE.out]; exact own_set (own_set Q2.out rfl _ _) rfl _ _
  · simp only; rw [← HQ.out]; exact own_put (own_put Q3.out (p := ⟨g2, p * 2, none⟩) hN3b.out _) (p := ⟨g2, p * 2 + 1, none⟩) hN3b.out _
set_option maxHeartbeats 1600000 in
set_option maxRecDepth 100000 in
theorem rename_new (f : Fs.FSy) (s tt : ByteArray) (base g : Nat) (w : World) (hdk : Dsk w base g f) (hbw : base ≤ w.heap.size) (h24 : f.1.length ≤ 24) (hgd : Fs.Good f.1.length f.2.1) (hs : s.data.toList ∈ Fs.nms f.2.1) (hto : tt.data.toList ∉ Fs.nms (Fs.wout f.2.1 s)) :
    Calls Tryd.prog 94 #[.pointer (some ⟨g, 0, none⟩), .int .i64 ((Dct.plc (Fs.nms f.2.1) s.data.toList : Nat) : Int), .string tt] w fun e w' => e = .returned (.tuple #[]) ∧ Dsk w' base g (f.1, Fs.wth (Fs.wout f.2.1 s) (tt, Fs.nof f.2.1 s), f.2.2) ∧ Below base w w' := by
  obtain ⟨NL, DL, SL⟩ := f
  obtain ⟨A1, c1, A2, c2, A3, c3, hb, hbg, o1, o2, o3, hdj⟩ := hdk
  simp only at hb o1 o2 o3 h24 hgd hs hto
  simp only
  obtain ⟨n, hn⟩ : ∃ n, n = NL.length := ⟨_, rfl⟩
  obtain ⟨m, hm⟩ : ∃ m, m = DL.length := ⟨_, rfl⟩
  obtain ⟨q, hq⟩ : ∃ q, q = SL.length := ⟨_, rfl⟩
  have hmn := Fs.good_len hgd
  rw [← hn] at hb o1 h24 hgd hmn
  rw [← hm] at hb o2 hmn
  rw [← hq] at hb o3
  obtain ⟨hk, hke, hkn⟩ := Fs.nof_at hgd.2.1 hs
  have hD1 := Fs.wout_yes hgd.2.1 hs
  have hG1 := Fs.wout_good hgd s
  obtain ⟨D1, hD1e⟩ : ∃ D, D = Fs.wout DL s := ⟨_, rfl⟩
  rw [← hD1e] at hD1 hG1 hto ⊢
  obtain ⟨i, hi⟩ : ∃ i, i = Dct.plc (Fs.nms DL) s.data.toList := ⟨_, rfl⟩
  obtain ⟨x, hx⟩ : ∃ x, x = Fs.nof DL s := ⟨_, rfl⟩
  have him : i < m := by rw [hi, hm]; exact hk
  obtain ⟨g2, rfl⟩ := own_some o2 (by omega)
  obtain ⟨b3, o3', e3, l3, c3'⟩ := (own_rd o2).1.ents _ hk
  cases e3
  have d0 := (c3' _ hk).1
  have d1 := (c3' _ hk).2
  rw [hke] at d0
  rw [← hkn] at d1
  rw [← hi] at d0 d1 hD1 ⊢
  rw [← hx] at d1 ⊢
  rw [Nat.zero_add] at d0 d1
  obtain ⟨j, hj⟩ : ∃ j, j + 1 = m := ⟨m - 1, by omega⟩
  have HDEL := hid (fun (wx : World) (o : wx.ownsRow base 47 2 (.slice (some ⟨g2, 0, none⟩) m c2) m (ens DL)) => deleteE_any DL (some ⟨g2, 0, none⟩) m c2 i base ((i : Int) + 1) wx rfl j hj hm.symm o him (by omega))
  rw [← hD1] at HDEL
  have hjl : D1.length = j := by rw [hD1, List.length_append, List.length_take, List.length_drop]; omega
  have HJ := hid hj
  have HJL := hid hjl
  have HAT := hid (fun (wx : World) (o : wx.ownsRow base 47 2 (.slice (some ⟨g2, 0, none⟩) j c2) j (ens D1)) => at_any D1 (some ⟨g2, 0, none⟩) j c2 tt wx hjl (own_rd o).1 (by omega) hG1.2.1)
  have HN := hid hn; have HM := hid hm; have HQ := hid hq
  have HB := hid hb; have HO1 := hid o1; have HO2 := hid o2; have HO3 := hid o3
  have HBG := hid hbg; have HBW := hid hbw; have HDJ := hid hdj
  have himI : (i : Int) < (m : Int) := by omega
  have hiI : (i : Int) ≤ 24 := by omega
  have HN12 := hid (show (Value.slice A1 n c1).ownBlock = none ∨ (Value.slice A1 n c1).ownBlock ≠ some g2 from own_ne o1 o2 (by decide))
  have HN1g := hid (own_nblk o1 hb (by decide))
  have HN3g := hid (own_nblk o3 hb (by decide))
  have HG2 := hid (show g2 ≠ g from fun e => own_nblk o2 hb (by decide) (by rw [← e]; rfl))
  have HG2L := hid (show base ≤ g2 ∧ g2 < w.heap.size from own_block_rng o2 rfl)
  have HGL := hid hb.lt
  have HD32 := hid (show (Value.slice A3 q c3).ownBlock = none ∨ (Value.slice A3 q c3).ownBlock ≠ some g2 from by
    cases A3 with
    | none => exact .inl rfl
    | some a3 => right; intro e; have e := Option.some.inj e; exact hdj ⟨g2, 0, none⟩ a3 rfl rfl e.symm)
  have HN1T := hid (show (Value.slice A1 n c1).ownBlock ≠ some w.heap.size from fun e => by have h := (own_block_rng o1 e).2; omega)
  have HN3T := hid (show (Value.slice A3 q c3).ownBlock ≠ some w.heap.size from fun e => by have h := (own_block_rng o3 e).2; omega)
  have HM24 := hid (show m ≤ 24 by omega)
  rw [decide_eq_false hto] at HAT
  have HWT := hid (Fs.wth_no hG1.2.1 (x := (tt, x)) hto)
  have hple : Dct.plc (Fs.nms D1) tt.data.toList ≤ j := by have := Dct.plc_le (Fs.nms D1) tt.data.toList; rw [Fs.nms_len] at this; omega
  obtain ⟨p, hp⟩ : ∃ p, p = Dct.plc (Fs.nms D1) tt.data.toList := ⟨_, rfl⟩
  rw [← hp] at HAT hple
  have HWK := hid (show Fs.wth D1 (tt, x) = D1.take p ++ (tt, x) :: D1.drop p by rw [hp]; exact HWT.out)
  have HPJ := hid hple
  have hpI : (p : Int) ≤ (j : Int) := by omega
  clear HWT hp hple hto
  clear hn hm hq hmn hb hbg o1 o2 o3 hdj hbw h24 hgd hs hk hke hkn hD1 hG1 hD1e hi hx him l3 c3' hj hjl
  have HN2g := hid (show (Value.slice (some ⟨g2, 0, none⟩) j c2).ownBlock ≠ some g from fun e => HG2.out (Option.some.inj e))
  have HN2T := hid (show (Value.slice (some ⟨g2, 0, none⟩) j c2).ownBlock ≠ some w.heap.size from fun e => by have h := HG2L.out.2; have e := Option.some.inj e; simp only at e; omega)
  have hTg : ¬ w.heap.size = g := fun e => by have h := HGL.out; omega
  have hgT : ¬ g = w.heap.size := fun e => by have h := HGL.out; omega
  go_enter Tryd.func94, Tryd.ntmps94
  have lg : g < w.heap.size := HGL.out
  have g1 := HB.out.cell 1
  go_wp2_with (first | (go_at_call 95; go_loud (refine Calls.mono (HDEL.out _ (own_ext HO2.out (Ext.new (ext_refl _) _))) ?_; rintro e w2 ⟨rfl, r2, r3⟩; have B2 := hid (Blk.grown (HB.out.alloc _) r3 (show (some g2 : Option Nat) ≠ some g from fun e => HG2.out (Option.some.inj e))); have T2 := hid (Blk.grown (Blk.new w 47 #[.string s, .int .i64 x]) r3 (show (some g2 : Option Nat) ≠ some w.heap.size from fun e => by have h := HG2L.out.2; have e := Option.some.inj e; omega)); have P1 := hid ((own_ext HO1.out (Ext.new (ext_refl _) _)).kept r3 HN12.out); have P3 := hid ((own_ext HO3.out (Ext.new (ext_refl _) _)).kept r3 HD32.out); have P2 := hid r2; have W2 := hid (Below.grown (Below.mono (Ext.new (ext_refl w) (.cells #[.string s, .int .i64 x] 47)) HBW.out) r3 (Nat.le_trans HBW.out (size_new _ _)) (fun k hk => by have hk := Option.some.inj hk; have := HG2L.out.1; simp only at hk; omega)); have W2S := hid (Nat.le_trans (size_new w (.cells #[.string s, .int .i64 x] 47)) r3.size); have g1' := B2.out.cell 1; have hf1 := B2.out.frozen 1; have t0 := T2.out.cell 0; have t1 := T2.out.cell 1; have ht0 := T2.out.frozen 0; clear r2 r3 g1)) | (go_at_call 36; go_loud (refine Calls.mono (HAT.out _ (own_put (own_put P2.out (p := ⟨g, 1, none⟩) HN2g.out _) (p := ⟨w.heap.size, 0, none⟩) HN2T.out _)) ?_; rintro e w4 ⟨rfl, x4⟩; have B4 := hid (((B2.out.set 1 (.slice (some ⟨g2, 0, none⟩) j c2)).far (p := ⟨w.heap.size, 0, none⟩) hgT (.string tt)).keep x4); have T4 := hid (((T2.out.far (p := ⟨g, 1, none⟩) hTg (.slice (some ⟨g2, 0, none⟩) j c2)).set 0 (.string tt)).keep x4); have Q1 := hid (own_ext (own_put (own_put P1.out (p := ⟨g, 1, none⟩) HN1g.out _) (p := ⟨w.heap.size, 0, none⟩) HN1T.out _) x4); have Q2 := hid (own_ext (own_put (own_put P2.out (p := ⟨g, 1, none⟩) HN2g.out _) (p := ⟨w.heap.size, 0, none⟩) HN2T.out _) x4); have Q3 := hid (own_ext (own_put (own_put P3.out (p := ⟨g, 1, none⟩) HN3g.out _) (p := ⟨w.heap.size, 0, none⟩) HN3T.out _) x4); have W4 := hid (Below.trans (Below.setCell (Below.setCell W2.out HBG.out (p := ⟨g, 1, none⟩) (.slice (some ⟨g2, 0, none⟩) j c2)) HBW.out (p := ⟨w.heap.size, 0, none⟩) (.string tt)) (Below.mono x4 (by rw [size_put, size_put]; exact Nat.le_trans HBW.out W2S.out))); have S4 := hid (show w.heap.size + 1 ≤ w4.heap.size by have h := T4.out.lt; omega); have k0 := B4.out.cell 0; have k1 := B4.out.cell 1; have k2 := B4.out.cell 2; have u0 := T4.out.cell 0; have u1 := T4.out.cell 1; have hk1 := B4.out.frozen 1; clear x4 g1' hf1 t0 t1 ht0)))
  have k1r := cell_regrown k1
  have u0r := cell_regrown u0
  have u1r := cell_regrown u1
  have HJ24 := hid (show j ≤ 1000000 by have := HJ.out; have := HM24.out; omega)
  have HS4 := hid (show base ≤ w4.heap.size by have := HBW.out; have := S4.out; omega)
  refine wp_region_late [9, 13] [0, 10, 11, 12] [(0, true), (1, true), (2, true), (3, true), (4, true), (5, true), (6, true), (7, true), (8, false), (9, false), (10, true), (11, true), (12, true), (13, false)] (by kernel_rfl) (by kernel_rfl) (fun _ _ _ _ _ h => h) (by kernel_rfl) (by rfl) ?_
  simp only [List.filterMap_cons, List.filterMap_nil, List.getElem?_toArray, List.getElem?_cons_zero, List.getElem?_cons_succ, Option.map_some, List.contains_cons, List.contains_nil, Nat.reduceBEq, Bool.or_false, Bool.or_true]
  repeat ((first | refine wpL_val (by rfl) ?_ | refine wpL_pure (by rfl) ?_); intro K hK; go_big_quiet_op; go_big_quiet_on)
  refine wpL_do (by rfl) ?_
  intro K hK
  go_simp
  have Y1 : Ext w4 (w4.drew.alloc (.cells #[.string tt, .int .i64 x] 47)) := Ext.new (Ext.draw (ext_refl w4)) _
  have HY1 := hid Y1
  refine hK _ _ Y1 ?_
  clear K hK Y1
  refine wpL_late (by rfl) ?_
  intro K hK
  go_simp
  refine Calls.mono (insE_any D1 (some ⟨g2, 0, none⟩) j c2 p base w4.heap.size (tt, x) _ HJL.out (own_ext Q2.out HY1.out) HPJ.out HJ24.out (Nat.le_trans HS4.out HY1.out.size) (Blk.new w4.drew _ _) (fun a ha e => by cases ha; have h := HG2L.out.2; have h2 := S4.out; simp only at e; omega)) ?_
  rintro e w6 ⟨B, d, rfl, i1, i2, i3⟩
  refine hK _ _ ?_
  clear K hK
  have B6 := hid (Blk.grown (B4.out.keep HY1.out) i2 (show (some g2 : Option Nat) ≠ some g from fun e => HG2.out (Option.some.inj e)))
  have R1 := hid ((own_ext Q1.out HY1.out).kept i2 HN12.out)
  have R3 := hid ((own_ext Q3.out HY1.out).kept i2 HD32.out)
  have R2 := hid i1
  have I2 := hid i2
  have I3 := hid i3
  have h1 := B6.out.cell 1
  have hr1 := B6.out.frozen 1
  clear i1 i2 i3 k0 k1 k2 hk1 k1r u0r u1r u0 u1
  repeat (refine wpL_pure (by rfl) ?_; intro K hK; go_big_quiet_op; go_big_quiet_on)
  refine wpL_late (by rfl) ?_
  intro K hK
  go_simp
  refine hK _ _ ?_
  clear K hK
  refine wpL_nil ?_
  go_wp2
  go_returns
  have HLB := hid (show w4.heap.size ≤ (w4.alloc (.cells #[.string tt, .int .i64 x] 47)).drew.heap.size from HY1.out.size)
  have HNBg := hid (show (Value.slice B (j + 1) d).ownBlock ≠ some g from new_ne I3.out HN2g.out B4.out.lt HLB.out)
  have HD3B := hid (show (Value.slice A3 q c3).ownBlock = none ∨ (Value.slice A3 q c3).ownBlock ≠ (Value.slice B (j + 1) d).ownBlock from by
    rcases I3.out with h | h
    · rw [h]; exact HD32.out
    · rw [h]
      cases h3 : (Value.slice A3 q c3).ownBlock with
      | none => exact .inl rfl
      | some b => right; intro e; have e := Option.some.inj e; have h5 := (own_block_rng Q3.out h3).2; have h6 := HLB.out; omega)
  have HL2 := hid (show (D1.take p ++ (tt, x) :: D1.drop p).length = j + 1 by
    have h1 := HJL.out; have h2 := HPJ.out
    rw [List.length_append, List.length_take, List.length_cons, List.length_drop]; omega)
  refine ⟨rfl, ⟨A1, c1, B, d, A3, c3, ?_, HBG.out, ?_, ?_, ?_, ?_⟩, Below.setCell ((Below.trans W4.out (Below.mono HY1.out HS4.out)).grown I2.out (Nat.le_trans HS4.out HLB.out) (fun k hk => by have hk := Option.some.inj hk; have h := HG2L.out.1; simp only at hk; omega)) HBG.out (p := ⟨g, 1, none⟩) _⟩
  · simp only; rw [HWK.out, HL2.out, ← HN.out, ← HQ.out]; exact (B6.out.set 1 (.slice B (j + 1) d)).cast (by simp)
  · simp only; rw [← HN.out]; exact own_put R1.out (p := ⟨g, 1, none⟩) HN1g.out _
  · simp only; rw [HWK.out, HL2.out]; exact own_put R2.out (p := ⟨g, 1, none⟩) HNBg.out _
  · simp only; rw [← HQ.out]; exact own_put R3.out (p := ⟨g, 1, none⟩) HN3g.out _
  · intro a2 a3 h2 h3 e
    subst h2 h3
    rcases HD3B.out with h | h
    · cases h
    · exact h (by show some a3.block = some a2.block; rw [e])
/-- an entry gets another name -/
theorem rename_any (f : Fs.FSy) (s tt : ByteArray) (base g : Nat) (w : World) (hdk : Dsk w base g f) (hbw : base ≤ w.heap.size) (h24 : f.1.length ≤ 24) (hgd : Fs.Good f.1.length f.2.1) (hs : s.data.toList ∈ Fs.nms f.2.1) :
    Calls Tryd.prog 94 #[.pointer (some ⟨g, 0, none⟩), .int .i64 ((Dct.plc (Fs.nms f.2.1) s.data.toList : Nat) : Int), .string tt] w fun e w' => e = .returned (.tuple #[]) ∧ Dsk w' base g (f.1, Fs.wth (Fs.wout f.2.1 s) (tt, Fs.nof f.2.1 s), f.2.2) ∧ Below base w w' := by
  by_cases h : tt.data.toList ∈ Fs.nms (Fs.wout f.2.1 s)
  · exact rename_old f s tt base g w hdk hbw h24 hgd hs h
  · exact rename_new f s tt base g w hdk hbw h24 hgd hs h
end Go.Proofs.YtolhifnlahllnaaDoor
