/- Files: write: walk (printed by gen_fsx.py). -/
import Derived.Test.YtolhifnlahllnaaDoorFsw
import Derived.Test.YtolhifnlahllnaaDoorFsu
import Derived.Test.YtolhifnlahllnaaDoorFss
namespace Hy
open Go Go.RowKit
section
variable {w w' : World} {base : Nat} {e e' : TypeId} {size size' : Nat} {n n' : Nat} {xs ys : List Value}
theorem own_typed {v : Value} (h : w.ownsRow base e size v n xs) {b : Nat} (hb : v.ownBlock = some b) : ∃ cur, w.heap[b]? = some (.cells cur e (0, 0)) := by
  rcases h.2 with ⟨rfl, _⟩ | ⟨g, cap, cur, rfl, _, hg, _⟩
  · cases hb
  · injection hb with hb
    subst hb
    exact ⟨cur, hg⟩
theorem own_ne {v u : Value} {base' : Nat} (h : w.ownsRow base e size v n xs) (k : w.ownsRow base' e' size' u n' ys) (he : e ≠ e') : v.ownBlock = none ∨ v.ownBlock ≠ u.ownBlock := by
  cases hv : v.ownBlock with
  | none => exact .inl rfl
  | some b =>
    right
    intro hu
    obtain ⟨c1, h1⟩ := own_typed h hv
    obtain ⟨c2, h2⟩ := own_typed k hu.symm
    rw [h1] at h2
    injection h2 with h2
    injection h2 with _ h2
    exact he h2
theorem own_nblk {v : Value} {g : Nat} {t : TypeId} {cs : Array Value} (h : w.ownsRow base e size v n xs) (k : Blk w g t cs) (he : e ≠ t) : v.ownBlock ≠ some g := fun hv => by
  obtain ⟨c1, h1⟩ := own_typed h hv
  rw [show w.heap[g]? = _ from k] at h1
  injection h1 with h1
  injection h1 with _ h1
  exact he h1.symm
theorem size_new (w : World) (o : Obj) : w.heap.size ≤ (w.alloc o).heap.size := (Ext.new (ext_refl w) o).size
theorem size_put (w : World) (p : Addr) (u : Value) : (w.setCell p u).heap.size = w.heap.size := by unfold World.setCell; split <;> simp
theorem new_ne {a b : Option Nat} {g k m : Nat} (h : a = b ∨ a = some m) (hb : b ≠ some g) (hg : g < k) (hk : k ≤ m) : a ≠ some g := by
  rcases h with rfl | rfl
  · exact hb
  · intro e; have := Option.some.inj e; omega
theorem own_put {v : Value} (h : w.ownsRow base e size v n xs) {p : Addr} (hp : v.ownBlock ≠ some p.block) (u : Value) : (w.setCell p u).ownsRow base e size v n xs :=
  h.kept (But.put (but_refl p.block w) p (.inl rfl) u) (.inr hp)
end
namespace Fs
theorem good_len {n : Nat} {l : List Ent} (h : Good n l) : l.length ≤ n := by
  have h1 : (l.map (·.2)).length ≤ n := by
    have h2 : (l.map (·.2)).Nodup := h.2.2
    have h3 : ∀ x ∈ l.map (·.2), x ∈ (List.range n).map (fun (i : Nat) => (i : Int)) := fun x hx => by
      obtain ⟨y, hy, rfl⟩ := List.mem_map.1 hx
      obtain ⟨_, h4, h5⟩ := h.1 y hy
      exact List.mem_map.2 ⟨y.2.toNat, List.mem_range.2 (by omega), by omega⟩
    have h4 := List.Nodup.length_le_of_subset h2 h3
    simpa using h4
  simpa using h1
theorem nds_setL (l : List Nod) (k : Nat) (h : k < l.length) (t : ByteArray) : (nds l).set (k * 2) (.string t) = nds (setL l k t) := by
  induction l generalizing k with
  | nil => simp at h
  | cons x r ih =>
    cases k with
    | zero => rfl
    | succ k =>
      have h' : k < r.length := by simpa using h
      have e : (k + 1) * 2 = (k * 2) + 2 := by omega
      have := ih k h'
      unfold setL at this ⊢
      simp only [nds, List.flatMap_cons, nod2, List.cons_append, List.nil_append, List.modify_succ_cons, e, List.set_cons_succ] at this ⊢
      rw [this]
theorem nds_synL (l : List Nod) (k : Nat) (h : k < l.length) : (nds l).set (k * 2 + 1) (.string l[k].1) = nds (synL l k) := by
  induction l generalizing k with
  | nil => simp at h
  | cons x r ih =>
    cases k with
    | zero => rfl
    | succ k =>
      have h' : k < r.length := by simpa using h
      have e : (k + 1) * 2 + 1 = (k * 2 + 1) + 2 := by omega
      have := ih k h'
      unfold synL at this ⊢
      simp only [nds, List.flatMap_cons, nod2, List.cons_append, List.nil_append, List.modify_succ_cons, e, List.set_cons_succ, List.getElem_cons_succ] at this ⊢
      rw [this]
end Fs
end Hy
namespace Go.Proofs.YtolhifnlahllnaaDoor
open Go.RowKit Hy
theorem Dsk.ext {w w' : World} {base g : Nat} {f : Fs.FSy} (h : Dsk w base g f) (hx : Ext w w') : Dsk w' base g f := by
  obtain ⟨A1, c1, A2, c2, A3, c3, hb, hg, o1, o2, o3, hd⟩ := h
  exact ⟨A1, c1, A2, c2, A3, c3, hb.keep hx, hg, own_ext o1 hx, own_ext o2 hx, own_ext o3 hx, hd⟩
set_option maxHeartbeats 1600000 in
set_option maxRecDepth 100000 in
theorem write_old (f : Fs.FSy) (s t : ByteArray) (base g : Nat) (w : World) (hdk : Dsk w base g f) (hbw : base ≤ w.heap.size) (h24 : f.1.length ≤ 24) (hgd : Fs.Good f.1.length f.2.1) (hs : s.data.toList ∈ Fs.nms f.2.1) :
    Calls Tryd.prog 93 #[.pointer (some ⟨g, 0, none⟩), .string s, .string t] w fun e w' => e = .returned (.int .i64 0) ∧ Dsk w' base g (Fs.setL f.1 (Fs.nof f.2.1 s).toNat t, f.2.1, f.2.2) ∧ Below base w w' := by
  obtain ⟨NL, DL, SL⟩ := f
  obtain ⟨A1, c1, A2, c2, A3, c3, hb, hbg, o1, o2, o3, hdj⟩ := hdk
  simp only at hb o1 o2 o3 h24 hgd
  obtain ⟨n, hn⟩ : ∃ n, n = NL.length := ⟨_, rfl⟩
  obtain ⟨m, hm⟩ : ∃ m, m = DL.length := ⟨_, rfl⟩
  obtain ⟨q, hq⟩ : ∃ q, q = SL.length := ⟨_, rfl⟩
  have hmn := Fs.good_len hgd
  rw [← hn] at hb o1 h24 hgd hmn
  rw [← hm] at hb o2 hmn
  rw [← hq] at hb o3
  have HAT := hid (fun wx (hx : Ext w wx) => at_any DL A2 m c2 s wx hm.symm ((own_rd o2).1.keep hx) (by omega) hgd.2.1)
  have HN := hid hn; have HM := hid hm; have HQ := hid hq
  have HB := hid hb; have HO1 := hid o1; have HO2 := hid o2; have HO3 := hid o3
  have HBG := hid hbg; have HBW := hid hbw; have HDJ := hid hdj
  have hnI : (n : Int) ≤ 24 := by omega
  have hmI : (m : Int) ≤ 24 := by omega
  obtain ⟨hk, hke, hkn⟩ := Fs.nof_at hgd.2.1 hs
  obtain ⟨j, hj⟩ : ∃ j : Nat, Fs.nof DL s = (j : Int) := ⟨(Fs.nof DL s).toNat, by have := (hgd.1 _ (List.getElem_mem hk)).2.1; omega⟩
  have hjn : j < n := by have := (hgd.1 _ (List.getElem_mem hk)).2.2; omega
  simp only
  rw [hj, Int.toNat_natCast]
  rw [decide_eq_true hs] at HAT
  have hkm : Dct.plc (Fs.nms DL) s.data.toList < m := by rw [hm]; exact hk
  obtain ⟨k, hkk⟩ : ∃ k, k = Dct.plc (Fs.nms DL) s.data.toList := ⟨_, rfl⟩
  obtain ⟨g2, rfl⟩ := own_some o2 (by omega)
  obtain ⟨g1, rfl⟩ := own_some o1 (by omega)
  obtain ⟨b3, o3', e3, l3, c3'⟩ := (own_rd o2).1.ents _ hk
  cases e3
  have d1 := (c3' _ hk).2
  rw [← hkn, hj] at d1
  obtain ⟨b4, o4', e4, l4, c4'⟩ := (own_rd o1).1.nodes j (by omega)
  cases e4
  have d2 := (c4' j (by omega)).1
  obtain ⟨cur, hcur⟩ := own_block o1
  rw [← hkk] at HAT d1 hkm
  rw [Nat.zero_add] at d1 d2
  generalize (NL[j]'(by omega)).1 = told at d2
  have HD1 := hid d1; have HD2 := hid d2; have HC := hid hcur
  have HSL := hid (Fs.nds_setL NL j (by omega) t)
  have hjI : (j : Int) < (n : Int) := by omega
  have hkI : (k : Int) < (m : Int) := by omega
  have HNE2 := hid (show Value.ownBlock (.slice (some ⟨g2, 0, none⟩) m c2) ≠ some g1 from by
    rcases own_ne o2 o1 (by decide) with h | h
    · cases h
    · exact h)
  have HNE3 := hid (show Value.ownBlock (.slice A3 q c3) ≠ some g1 from by
    rcases own_ne o3 o1 (by decide) with h | h
    · rw [h]; intro e; cases e
    · exact h)
  have HNEg := hid (show g ≠ g1 from fun e => own_nblk o1 hb (by decide) (by rw [e]; rfl))
  have HSN := hid (show n = (Fs.setL NL j t).length by rw [Fs.setL_len]; exact hn)
  have HGB := hid (show base ≤ g1 from (own_block_rng o1 rfl).1)
  clear hn hm hq hmn hb hbg o1 o2 o3 hdj hbw h24 hgd hs hk hke hkn hj hjn hkm hkk l3 l4 c3' c4' d1 d2 hcur
  go_enter Tryd.func93, Tryd.ntmps93
  have g0 := HB.out.cell 0
  have g1' := HB.out.cell 1
  go_wp2_with fail
  refine Calls.mono (HAT.out _ (ext_refl _)) ?_
  rintro e w1 ⟨rfl, hx⟩
  have X1 := hid hx
  have B1 := hid (HB.out.keep hx)
  clear hx g0 g1'
  have g0 := B1.out.cell 0
  have g1' := B1.out.cell 1
  have d1 := ext_cell X1.out HD1.out
  have d2 := ext_cell X1.out HD2.out
  have hf := (HC.out.keep X1.out).frozen (j * 2)
  go_wp2_with fail
  go_still_tail 17, (by kernel_rfl)
  change wpList _ _ _ _ _ w1.drew
  go_wp2
  go_returns
  refine ⟨rfl, Dsk.ext ⟨some ⟨g1, 0, none⟩, c1, some ⟨g2, 0, none⟩, c2, A3, c3, ?_, HBG.out, ?_, ?_, ?_, HDJ.out⟩ (ext_refl _).draw, Below.drew (Below.setCell (Below.mono X1.out HBW.out) HGB.out _)⟩
  · simp only; rw [← HSN.out, ← HM.out, ← HQ.out]; exact B1.out.far (p := ⟨g1, j * 2, none⟩) HNEg.out _
  · simp only; rw [← HSN.out, ← HSL.out]; exact own_set (own_ext HO1.out X1.out) rfl (j * 2) _
  · simp only; rw [← HM.out]; exact own_put (own_ext HO2.out X1.out) HNE2.out _
  · simp only; rw [← HQ.out]; exact own_put (own_ext HO3.out X1.out) HNE3.out _
set_option maxRecDepth 100000 in
theorem write_many (f : Fs.FSy) (s t : ByteArray) (base g : Nat) (w : World) (hdk : Dsk w base g f) (hbw : base ≤ w.heap.size) (h24 : f.1.length = 24) (hgd : Fs.Good f.1.length f.2.1) (hs : s.data.toList ∉ Fs.nms f.2.1) :
    Calls Tryd.prog 93 #[.pointer (some ⟨g, 0, none⟩), .string s, .string t] w fun e w' => e = .returned (.int .i64 2) ∧ Below base w w' := by
  obtain ⟨NL, DL, SL⟩ := f
  obtain ⟨A1, c1, A2, c2, A3, c3, hb, hbg, o1, o2, o3, hdj⟩ := hdk
  simp only at hb o1 o2 o3 h24 hgd
  obtain ⟨n, hn⟩ : ∃ n, n = NL.length := ⟨_, rfl⟩
  obtain ⟨m, hm⟩ : ∃ m, m = DL.length := ⟨_, rfl⟩
  obtain ⟨q, hq⟩ : ∃ q, q = SL.length := ⟨_, rfl⟩
  have hmn := Fs.good_len hgd
  rw [← hn] at hb o1 h24 hgd hmn
  rw [← hm] at hb o2 hmn
  rw [← hq] at hb o3
  have HAT := hid (fun wx (hx : Ext w wx) => at_any DL A2 m c2 s wx hm.symm ((own_rd o2).1.keep hx) (by omega) hgd.2.1)
  have HB := hid hb; have HBW := hid hbw
  have hnI : (n : Int) ≤ 24 := by omega
  have hmI : (m : Int) ≤ 24 := by omega
  rw [decide_eq_false hs] at HAT
  generalize Dct.plc (Fs.nms DL) s.data.toList = k at HAT
  clear hm hq hmn hb hbg o1 o2 o3 hdj hbw hgd hs hmI hn
  subst h24
  go_enter Tryd.func93, Tryd.ntmps93
  have g0 := HB.out.cell 0
  have g1' := HB.out.cell 1
  go_wp2_with fail
  refine Calls.mono (HAT.out _ (ext_refl _)) ?_
  rintro e w1 ⟨rfl, hx⟩
  have X1 := hid hx
  have B1 := hid (HB.out.keep hx)
  clear hx g0 g1'
  have g0 := B1.out.cell 0
  go_wp2
  go_returns
  exact ⟨rfl, Below.mono X1.out HBW.out⟩
set_option maxHeartbeats 1600000 in
set_option maxRecDepth 100000 in
theorem write_new (f : Fs.FSy) (s t : ByteArray) (base g : Nat) (w : World) (hdk : Dsk w base g f) (hbw : base ≤ w.heap.size) (h24 : f.1.length < 24) (hgd : Fs.Good f.1.length f.2.1) (hs : s.data.toList ∉ Fs.nms f.2.1) :
    Calls Tryd.prog 93 #[.pointer (some ⟨g, 0, none⟩), .string s, .string t] w fun e w' => e = .returned (.int .i64 0) ∧ Dsk w' base g (f.1 ++ [(t, ByteArray.empty)], Fs.wth f.2.1 (s, (f.1.length : Nat)), f.2.2) ∧ Below base w w' := by
  obtain ⟨NL, DL, SL⟩ := f
  obtain ⟨A1, c1, A2, c2, A3, c3, hb, hbg, o1, o2, o3, hdj⟩ := hdk
  simp only at hb o1 o2 o3 h24 hgd
  obtain ⟨n, hn⟩ : ∃ n, n = NL.length := ⟨_, rfl⟩
  obtain ⟨m, hm⟩ : ∃ m, m = DL.length := ⟨_, rfl⟩
  obtain ⟨q, hq⟩ : ∃ q, q = SL.length := ⟨_, rfl⟩
  have hmn := Fs.good_len hgd
  rw [← hn] at hb o1 h24 hgd hmn
  rw [← hm] at hb o2 hmn
  rw [← hq] at hb o3
  have HAT := hid (fun wx (hx : Ext w wx) => at_any DL A2 m c2 s wx hm.symm ((own_rd o2).1.keep hx) (by omega) hgd.2.1)
  have HN := hid hn; have HM := hid hm; have HQ := hid hq
  have HB := hid hb; have HO1 := hid o1; have HO2 := hid o2; have HO3 := hid o3
  have HBG := hid hbg; have HBW := hid hbw; have HDJ := hid hdj
  have hnI : (n : Int) ≤ 24 := by omega
  have hmI : (m : Int) ≤ 24 := by omega
  rw [decide_eq_false hs] at HAT
  have HWT := hid (Fs.wth_no hgd.2.1 (x := (s, ((n : Nat) : Int))) hs)
  have hkle : Dct.plc (Fs.nms DL) s.data.toList ≤ m := by have := Dct.plc_le (Fs.nms DL) s.data.toList; rw [Fs.nms_len] at this; omega
  simp only [← hn]
  obtain ⟨k, hkk⟩ : ∃ k, k = Dct.plc (Fs.nms DL) s.data.toList := ⟨_, rfl⟩
  have HWK := hid (show Fs.wth DL (s, ((n : Nat) : Int)) = DL.take k ++ (s, ((n : Nat) : Int)) :: DL.drop k by rw [hkk]; exact HWT.out)
  rw [← hkk] at HAT hkle
  have HKL := hid hkle
  have HN24 := hid h24
  have HM24 := hid (show m ≤ 24 by omega)
  have hne24 : ((n : Int) == 24) = false := beq_eq_false_iff_ne.2 (by omega)
  have hkI : (k : Int) ≤ (m : Int) := by omega
  have HNE21 := hid (own_ne o2 o1 (by decide))
  have HNE31 := hid (own_ne o3 o1 (by decide))
  have HN1g := hid (own_nblk o1 hb (by decide))
  have HN2g := hid (own_nblk o2 hb (by decide))
  have HN3g := hid (own_nblk o3 hb (by decide))
  have HA2 := hid (show ∀ a, A2 = some a → a.block < w.heap.size from fun a ha => by subst ha; exact (own_block_rng o2 rfl).2)
  have HD32 := hid (show (Value.slice A3 q c3).ownBlock = none ∨ (Value.slice A3 q c3).ownBlock ≠ (Value.slice A2 m c2).ownBlock from by
    cases A3 with
    | none => exact .inl rfl
    | some a3 =>
      right
      cases A2 with
      | none => intro e; cases e
      | some a2 => intro e; have e := Option.some.inj e; exact hdj a2 a3 rfl rfl e.symm)
  clear hm hq hmn hb hbg o1 o2 o3 hdj hbw h24 hgd hs hkk hkle hn HWT
  go_enter Tryd.func93, Tryd.ntmps93
  have g0 := HB.out.cell 0
  have g1' := HB.out.cell 1
  go_wp2_with fail
  refine Calls.mono (HAT.out _ (ext_refl _)) ?_
  rintro e w1 ⟨rfl, hx⟩
  have X1 := hid hx
  have B1 := hid (HB.out.keep hx)
  have O1 := hid (own_ext HO1.out hx)
  have O2 := hid (own_ext HO2.out hx)
  have O3 := hid (own_ext HO3.out hx)
  clear hx g0 g1'
  have g0 := B1.out.cell 0
  have g1' := B1.out.cell 1
  have hf0 := B1.out.frozen 0
  have hf1 := B1.out.frozen 1
  have BW1 := hid (Below.mono X1.out HBW.out)
  have HS1 := hid (show base ≤ w1.heap.size from Nat.le_trans HBW.out X1.out.size)
  go_wp2_with (first | (at_builtin; go_loud (refine wpList_app rfl (.tmp 51) (.tmp 54) rowNo rfl _ n (nds NL) rfl (own_ext O1.out (Ext.new (ext_refl _) _)) _ 1 (nds [(t, ByteArray.empty)]) rfl (Src.rd Tryd.underlying22 _ 1 1 _ rfl (rd_lit rfl rfl) (nds_one _) (fun h => by cases h)) (by have := HN24.out; simp only [maxLen]; omega) (by have := HN24.out; omega) (by have := HS1.out; simp; omega) ?_; intro v' w3 hown3 hgrow3 hat3 hbel3; obtain ⟨A9, c9, rfl, hrd9⟩ := Rd.owned hown3; have B3 := hid (Blk.grown (B1.out.alloc _) hgrow3 HN1g.out); have P1 := hid hown3; have P2 := hid ((own_ext O2.out (Ext.new (ext_refl _) _)).kept hgrow3 HNE21.out); have P3 := hid ((own_ext O3.out (Ext.new (ext_refl _) _)).kept hgrow3 HNE31.out); have HN9g := hid (new_ne hat3 HN1g.out B1.out.lt (size_new _ _)); have BW3 := hid (Below.trans (Below.trans BW1.out (Below.mono (Ext.new (ext_refl _) _) HS1.out)) hbel3); have HS3 := hid (Nat.le_trans HS1.out (Nat.le_trans (size_new _ _) hgrow3.size)); have HS31 := hid (Nat.le_trans (size_new _ _) hgrow3.size); have HN92 := hid (own_ne P1.out P2.out (by decide)); have f0 := B3.out.cell 0; have f1 := B3.out.cell 1; have hr0 := B3.out.frozen 0; have hr1 := B3.out.frozen 1; clear hown3 hgrow3 hat3 hbel3 hrd9 g0 g1' hf0 hf1)) | (go_at_call 116; go_loud (refine Calls.mono (insE_any DL A2 m c2 k base _ (s, (n : Int)) _ HM.out.symm (own_ext (own_put P2.out (p := ⟨g, 0, none⟩) HN2g.out _) (Ext.new (ext_refl _) _)) HKL.out (by have := HM24.out; omega) (Nat.le_trans HS3.out (by rw [← size_put w3 ⟨g, 0, none⟩ (.slice A9 (n + 1) c9)]; exact size_new _ _)) (Blk.newAt (by rw [size_put])) (fun a ha e => by have h1 := HA2.out a ha; have h2 := HS31.out; have h3 := X1.out.size; omega)) ?_; rintro e w6 ⟨B, d, rfl, i1, i2, i3⟩; have B6 := hid (Blk.grown ((B3.out.set 0 (.slice A9 (n + 1) c9)).alloc _) i2 HN2g.out); have Q1 := hid ((own_ext (own_put P1.out (p := ⟨g, 0, none⟩) HN9g.out (.slice A9 (n + 1) c9)) (Ext.new (ext_refl _) _)).kept i2 HN92.out); have Q3 := hid ((own_ext (own_put P3.out (p := ⟨g, 0, none⟩) HN3g.out (.slice A9 (n + 1) c9)) (Ext.new (ext_refl _) _)).kept i2 HD32.out); have Q2 := hid i1; have I2 := hid i2; have I3 := hid i3; have h0 := B6.out.cell 0; have h1 := B6.out.cell 1; have hr1' := B6.out.frozen 1; clear i1 i2 i3 f0 f1 hr0 hr1)))
  have HZ := hid (show base ≤ (w3.setCell ⟨g, 0, none⟩ (.slice A9 (n + 1) c9)).heap.size by rw [size_put]; exact HS3.out)
  have HZ3 := hid (show w3.heap.size ≤ ((w3.setCell ⟨g, 0, none⟩ (.slice A9 (n + 1) c9)).alloc (.cells #[.string s, .int .i64 (n : Int)] 47)).heap.size from Nat.le_trans (Nat.le_of_eq (size_put w3 ⟨g, 0, none⟩ (.slice A9 (n + 1) c9)).symm) (size_new _ _))
  have Bw5 := hid (Below.trans (Below.setCell BW3.out HBG.out (p := ⟨g, 0, none⟩) (.slice A9 (n + 1) c9)) (Below.mono (Ext.new (ext_refl _) (.cells #[.string s, .int .i64 (n : Int)] 47)) HZ.out))
  have Bw7 := hid (Below.setCell (Bw5.out.grown I2.out (Nat.le_trans HZ.out (size_new _ _)) (fun j hj => (own_block_rng P2.out hj).1)) HBG.out (p := ⟨g, 1, none⟩) (.slice B (m + 1) d))
  have HNBg := hid (new_ne I3.out HN2g.out B3.out.lt HZ3.out)
  have HD3B := hid (show (Value.slice A3 q c3).ownBlock = none ∨ (Value.slice A3 q c3).ownBlock ≠ (Value.slice B (m + 1) d).ownBlock from by
    rcases I3.out with h | h
    · rw [h]; exact HD32.out
    · rw [h]
      cases h3 : (Value.slice A3 q c3).ownBlock with
      | none => exact .inl rfl
      | some b => right; intro e; have e := Option.some.inj e; have h5 := (own_block_rng P3.out h3).2; have h6 := HZ3.out; omega)
  have HL1 := hid (show (NL ++ [(t, ByteArray.empty)]).length = n + 1 by rw [List.length_append, ← HN.out]; rfl)
  have HL2 := hid (show (DL.take k ++ (s, ((n : Nat) : Int)) :: DL.drop k).length = m + 1 by
    have h1 := HM.out; have h2 := HKL.out
    rw [List.length_append, List.length_take, List.length_cons, List.length_drop]; omega)
  go_returns
  refine ⟨rfl, ⟨A9, c9, B, d, A3, c3, ?_, HBG.out, ?_, ?_, ?_, ?_⟩, Bw7.out⟩
  · simp only; rw [HL1.out, HWK.out, HL2.out, ← HQ.out]; exact (B6.out.set 1 (.slice B (m + 1) d)).cast (by simp)
  · simp only; rw [HL1.out, nds_app]; exact own_put Q1.out HN9g.out _
  · simp only; rw [HWK.out, HL2.out]; exact own_put Q2.out HNBg.out _
  · simp only; rw [← HQ.out]; exact own_put Q3.out HN3g.out _
  · intro a2 a3 h2 h3 e
    subst h2 h3
    rcases HD3B.out with h | h
    · cases h
    · exact h (by show some a3.block = some a2.block; rw [e])
/-- a file is written -/
theorem write_any (f : Fs.FSy) (s t : ByteArray) (base g : Nat) (w : World) (hdk : Dsk w base g f) (hbw : base ≤ w.heap.size) (h24 : f.1.length ≤ 24) (hgd : Fs.Good f.1.length f.2.1) :
    Calls Tryd.prog 93 #[.pointer (some ⟨g, 0, none⟩), .string s, .string t] w fun e w' => e = .returned (.int .i64 ((Fs.wrt f s t).2 : Nat)) ∧ ((Fs.wrt f s t).2 = 0 → Dsk w' base g (Fs.wrt f s t).1) ∧ Below base w w' := by
  by_cases hs : s.data.toList ∈ Fs.nms f.2.1
  · have hn : ¬ Fs.nof f.2.1 s < 0 := fun h => (Fs.nof_iff hgd).1 h hs
    have e : Fs.wrt f s t = ((Fs.setL f.1 (Fs.nof f.2.1 s).toNat t, f.2.1, f.2.2), 0) := by unfold Fs.wrt; rw [if_neg hn]
    rw [e]
    refine (write_old f s t base g w hdk hbw h24 hgd hs).mono ?_
    rintro e w' ⟨rfl, h1, h2⟩
    exact ⟨rfl, fun _ => h1, h2⟩
  · have hn : Fs.nof f.2.1 s < 0 := (Fs.nof_iff hgd).2 hs
    by_cases h : f.1.length = 24
    · have e : Fs.wrt f s t = (Fs.fs0, 2) := by unfold Fs.wrt; rw [if_pos hn, if_pos h]
      rw [e]
      refine (write_many f s t base g w hdk hbw h hgd hs).mono ?_
      rintro e w' ⟨rfl, h2⟩
      exact ⟨rfl, fun h => absurd h (by decide), h2⟩
    · have e : Fs.wrt f s t = ((f.1 ++ [(t, ByteArray.empty)], Fs.wth f.2.1 (s, (f.1.length : Nat)), f.2.2), 0) := by unfold Fs.wrt; rw [if_pos hn, if_neg h]
      rw [e]
      refine (write_new f s t base g w hdk hbw (by omega) hgd hs).mono ?_
      rintro e w' ⟨rfl, h1, h2⟩
      exact ⟨rfl, fun _ => h1, h2⟩
end Go.Proofs.YtolhifnlahllnaaDoor
