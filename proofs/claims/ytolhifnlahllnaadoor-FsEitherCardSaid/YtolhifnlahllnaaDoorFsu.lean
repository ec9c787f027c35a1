/- Files: swept: walk (printed by gen_fsu.py). -/
import Derived.Test.YtolhifnlahllnaaDoorFst
import Derived.Test.YtolhifnlahllnaaDoorFsd
namespace Hy.Fs
open Go Go.Maps
/-- the map knows where the nodes are that stay -/
def KnowsW (a b : List Ent) (k : Nat) (D : DataW Unit) : Prop := IsMap D ∧ ∀ j : Nat, j < k → (nmd a (j : Int) || nmd b (j : Int)) = true → ∀ z, D.atKey (.int .i64 (j : Int)) z = .lit (.int .i64 ((Fs.few a b j : Nat) : Int))
theorem knowsW_zero (a b : List Ent) : KnowsW a b 0 (.map []) := ⟨isMap_empty, fun _ h => absurd h (Nat.not_lt_zero _)⟩
theorem knowsW_put (a b : List Ent) (k : Nat) (D : DataW Unit) (h : KnowsW a b k D) : KnowsW a b (k + 1) (D.put (.int .i64 (k : Int)) (.lit (.int .i64 ((Fs.few a b k : Nat) : Int)))) := by
  refine ⟨h.1.put _ _, fun j hj hn z => ?_⟩
  rcases Nat.lt_or_ge j k with h1 | h1
  · rw [atKey_put_other]
    · exact h.2 j h1 hn z
    · intro e; injection e with _ e; omega
  · have : j = k := by omega
    subst this
    exact atKey_put_same h.1 (by simp [WideAt.IsKeyLit]) _ _
theorem knowsW_skip (a b : List Ent) (k : Nat) (D : DataW Unit) (h : KnowsW a b k D) (hn : (nmd a (k : Int) || nmd b (k : Int)) = false) : KnowsW a b (k + 1) D := by
  refine ⟨h.1, fun j hj hjn z => ?_⟩
  rcases Nat.lt_or_ge j k with h1 | h1
  · exact h.2 j h1 hjn z
  · have : j = k := by omega
    subst this
    rw [hn] at hjn; cases hjn
/-- entries of which the first k are moved -/
def movk (a b l : List Ent) (k : Nat) : List Ent := mov a b (l.take k) ++ l.drop k
theorem movk_len (a b l : List Ent) (k : Nat) : (movk a b l k).length = l.length := by
  unfold movk; rw [List.length_append, mov_len, List.length_take, List.length_drop]; omega
theorem movk_zero (a b l : List Ent) : movk a b l 0 = l := by simp [movk, mov]
theorem movk_all (a b l : List Ent) : movk a b l l.length = mov a b l := by simp [movk]
theorem movk_at (a b l : List Ent) (k : Nat) (h : k < l.length) : (movk a b l k)[k]? = some l[k] := by
  unfold movk
  rw [List.getElem?_append_right (by rw [mov_len, List.length_take]; omega), mov_len, List.length_take, Nat.min_eq_left (by omega), Nat.sub_self, List.getElem?_drop, Nat.add_zero, List.getElem?_eq_getElem h]
theorem movk_set (a b l : List Ent) (k : Nat) (h : k < l.length) : (movk a b l k).set k (l[k].1, ((Fs.few a b l[k].2.toNat : Nat) : Int)) = movk a b l (k + 1) := by
  unfold movk
  rw [List.set_append_right _ _ (by rw [mov_len, List.length_take]; omega), mov_len, List.length_take, Nat.min_eq_left (by omega), Nat.sub_self, List.drop_eq_getElem_cons h, List.set_cons_zero,
    List.take_succ_eq_append_getElem h]
  unfold mov
  rw [List.map_append, List.append_assoc]; rfl
theorem ens_set2 (l : List Ent) (k : Nat) (h : k < l.length) (y : Int) : (ens l).set (k * 2 + 1) (.int .i64 y) = ens (l.set k (l[k].1, y)) := by
  induction l generalizing k with
  | nil => simp at h
  | cons x r ih =>
    cases k with
    | zero => rfl
    | succ k =>
      have h' : k < r.length := by simpa using h
      have e : (k + 1) * 2 + 1 = (k * 2 + 1) + 2 := by omega
      have := ih k h'
      simp only [ens, List.flatMap_cons, ent2, List.cons_append, List.nil_append, List.set_cons_succ, List.getElem_cons_succ, e] at this ⊢
      rw [this]
theorem movk_ens (a b l : List Ent) (k : Nat) (h : k < l.length) : (ens (movk a b l k)).set (k * 2 + 1) (.int .i64 ((Fs.few a b l[k].2.toNat : Nat) : Int)) = ens (movk a b l (k + 1)) := by
  have hk : k < (movk a b l k).length := by rw [movk_len]; exact h
  have e := movk_at a b l k h
  rw [List.getElem?_eq_getElem hk] at e
  injection e with e
  rw [ens_set2 _ k hk, e, movk_set a b l k h]
end Hy.Fs
namespace Go.Proofs.YtolhifnlahllnaaDoor
open Go.RowKit Hy Go.Maps
theorem own_block {w : World} {base : Nat} {e : TypeId} {size : Nat} {g n c : Nat} {xs : List Value} (h : w.ownsRow base e size (.slice (some ⟨g, 0, none⟩) n c) n xs) : ∃ cur, Blk w g e cur := by
  rcases h.2 with ⟨h, _⟩ | ⟨g', c', cur, hv, _, hg, _⟩
  · cases h
  · injection hv with h1
    injection h1 with h1
    injection h1 with h1
    subst h1
    exact ⟨cur, hg⟩
theorem Blk.grown {w w' : World} {g : Nat} {t : TypeId} {cs : Array Value} {o : Option Nat} (h : Blk w g t cs) (hx : w.grownBy w' o) (hne : o ≠ some g) : Blk w' g t cs :=
  (hx.block g h.lt (fun e => hne e.symm)).trans h
theorem fmap_below {w w' : World} {k e : TypeId} {b n B : Nat} {D : DataW Unit} (h : w.ownsMap Tryd.prog k (plainElem Tryd.prog e) b n D) (hx : Below B w w') (hb : b < B) : w'.ownsMap Tryd.prog k (plainElem Tryd.prog e) b n D := by
  obtain ⟨es, cl, hbb, F, h1, h2⟩ := h
  exact ⟨es, cl, (hx.block b hb).trans hbb, F, h1, h2⟩
theorem fmap_grown {w w' : World} {k e : TypeId} {b n : Nat} {o : Option Nat} {D : DataW Unit} (h : w.ownsMap Tryd.prog k (plainElem Tryd.prog e) b n D) (hx : w.grownBy w' o) (hb : o ≠ some b) : w'.ownsMap Tryd.prog k (plainElem Tryd.prog e) b n D := by
  obtain ⟨es, cl, hbb, F, h1, h2⟩ := h
  refine ⟨es, cl, ?_, F, h1, h2⟩
  have hlt : b < w.heap.size := by
    rcases Nat.lt_or_ge b w.heap.size with hlt | hge
    · exact hlt
    · rw [Array.getElem?_eq_none hge] at hbb; cases hbb
  rw [hx.block b hlt (fun e => hb e.symm)]; exact hbb
set_option maxHeartbeats 6400000 in
set_option maxRecDepth 100000 in
theorem swept_any (f : Fs.FSy) (base g : Nat) (w : World) (hdk : Dsk w base g f) (hbw : base ≤ w.heap.size) (h24 : f.1.length ≤ 24) (hdl : f.2.1.length ≤ 140737488355328) (hsl : f.2.2.length ≤ 140737488355328)
    (hgd : ∀ x ∈ f.2.1, 0 ≤ x.2 ∧ x.2 < f.1.length) (hgs : ∀ x ∈ f.2.2, 0 ≤ x.2 ∧ x.2 < f.1.length) :
    Calls Tryd.prog 40 #[.pointer (some ⟨g, 0, none⟩)] w fun e w' => ∃ v, e = .returned v ∧ FsO w' base v (Fs.swp f) ∧ Below base w w' := by
  obtain ⟨NL, DL, SL⟩ := f
  obtain ⟨A1, c1, A2, c2, A3, c3, hb, hbg, o1, o2, o3, hdj⟩ := hdk
  simp only at hb o1 o2 o3 h24 hdl hsl hgd hgs
  obtain ⟨n, hn⟩ : ∃ n, n = NL.length := ⟨_, rfl⟩
  obtain ⟨m, hm⟩ : ∃ m, m = DL.length := ⟨_, rfl⟩
  obtain ⟨q, hq⟩ : ∃ q, q = SL.length := ⟨_, rfl⟩
  rw [← hn] at hb o1 h24 hgd hgs
  rw [← hm] at hb o2 hdl
  rw [← hq] at hb o3 hsl
  rw [Fs.swp_eq]
  simp only
  obtain ⟨r1, z1, _⟩ := own_rd o1
  obtain ⟨r2, z2, _⟩ := own_rd o2
  obtain ⟨r3, z3, _⟩ := own_rd o3
  have HN := hid hn; have HM := hid hm; have HQ := hid hq
  have HNR := hid r1
  have HIN1 := hid (fun (i : Nat) wx (hx : Ext w wx) => named_any DL i A2 m c2 wx hm.symm (r2.keep hx) hdl)
  have HIN2 := hid (fun (i : Nat) wx (hx : Ext w wx) => named_any SL i A3 q c3 wx hq.symm (r3.keep hx) hsl)
  have HBLK := hid hb
  have HO2 := hid o2; have HO3 := hid o3
  have HDJ := hid hdj
  have HBW := hid hbw
  have HBG := hid hbg
  have HGD := hid hgd; have HGS := hid hgs
  have HZ1 := hid z1
  have hnI : (n : Int) ≤ 24 := by omega
  have hmI : (m : Int) ≤ 140737488355328 := by omega
  have hqI : (q : Int) ≤ 140737488355328 := by omega
  have HL24 := hid h24
  have hmk := @run_makeMap Tryd.prog
  clear hn hm hq hb o1 o2 o3 hdj r1 r2 r3 z1 z2 z3 hbw hbg hgd hgs h24 hdl hsl
  go_enter Tryd.func40, Tryd.ntmps40
  go_upto_region 3 with fail
  refine wp_gen (fun w' => Ext w w' ∧ Blk w' w.heap.size 25 #[.slice none 0 0, .slice none 0 0, .slice none 0 0] ∧ w'.ownsMap Tryd.prog 3 (plainElem Tryd.prog 3) (w.heap.size + 1) 0 (.map []) ∧ w'.heap.size = w.heap.size + 2) ⟨((ext_refl _).new _).new _, (Blk.new _ _ _).alloc _, by have := World.ownsMap_made (H := Unit) (w.alloc (.cells #[.slice none 0 0, .slice none 0 0, .slice none 0 0] 25)) Tryd.prog 3 (plainElem Tryd.prog 3); simpa using this, by simp⟩ ?_
  rintro wz ⟨B0, B1, B2, B3⟩
  have XZ := hid B0
  have BR := hid B1
  have HMZ := hid B2
  have HSZ := hid B3
  have BG := hid (HBLK.out.keep B0)
  have g0 := BG.out.cell 0
  have g1 := BG.out.cell 1
  have g2 := BG.out.cell 2
  clear B0 B1 B2 B3 hmk
  go_wp2
  go_loopw [3, 17] (fun vn c wr => ∃ (k : Nat) (D : DataW Unit), k ≤ n ∧ c = .int .i64 k ∧ Hid (wr.ownsRow (w.heap.size + 2) 49 2 vn (Fs.few DL SL k) (nds (Fs.keep DL SL 0 (NL.take k)))) ∧ Hid (wr.ownsMap Tryd.prog 3 (plainElem Tryd.prog 3) (w.heap.size + 1) (Fs.few DL SL k) D) ∧ Hid (Fs.KnowsW DL SL k D) ∧ Hid (Below (w.heap.size + 1) wz wr)) (fun _ c _ => n - (intOf c).toNat)
  case atStart => exact ⟨0, .map [], Nat.zero_le _, rfl, hid (World.ownsRow_nil _ _ _ _), HMZ, hid (Fs.knowsW_zero _ _), hid (Below.refl _ _)⟩
  case round =>
    obtain ⟨k, D, hk, rfl, HO, HMP, HK, HX⟩ := hrel
    have X0 : Hid (Ext w wr) := hid (Below.trans XZ.out (Below.mono HX.out (Nat.le_succ _)))
    obtain ⟨p, hp⟩ : ∃ p, p = Fs.few DL SL k := ⟨_, rfl⟩
    obtain ⟨K0, hK0⟩ : ∃ K0, K0 = Fs.keep DL SL 0 (NL.take k) := ⟨_, rfl⟩
    rw [← hp, ← hK0] at HO
    rw [← hp] at HMP
    obtain ⟨A9, c9, rfl, _, _, _, _⟩ := Rd.owned HO.out
    have hpk := Fs.few_le DL SL k
    rw [← hp] at hpk
    have hfs := Fs.few_succ DL SL k
    rw [← hp] at hfs
    have hpI : (p : Int) ≤ 24 := by omega
    have HP24 := hid (show p ≤ 24 by omega)
    have HPM := hid (show p < maxLen by unfold maxLen; omega)
    clear g0 g1 g2
    have BG := hid (HBLK.out.keep X0.out)
    have g0 := BG.out.cell 0
    have g1 := BG.out.cell 1
    have g2 := BG.out.cell 2
    have lg := block_lt_of_cell g0
    simp only at lg
    have HS2 := hid (show w.heap.size + 2 ≤ wr.heap.size by have := HX.out.size; have := HSZ.out; omega)
    have HS := hid (show w.heap.size + 1 ≤ wr.heap.size by have := HS2.out; omega)
    have HNE := hid (show some (Addr.mk wr.heap.size 0 none).block ≠ some (w.heap.size + 1) from fun h => by have h := Option.some.inj h; have := HS2.out; simp only at h; omega)
    by_cases hlt : k < n
    · have hka : k < NL.length := by rw [← HN.out]; exact hlt
      obtain ⟨b1, o1, e1, l1, c1⟩ := HNR.out.nodes k hka
      have d0 := ext_cell X0.out (c1 k hka).1
      have d1 := ext_cell X0.out (c1 k hka).2
      have hkI : (k : Int) < (n : Int) := by omega
      have hkey : keyOf Tryd.prog 3 (.int .i64 (k : Int)) = some (.int .i64 (k : Int)) := keyOf_int_mk Tryd.underlying3 (WalkArith.wf_i64 (by omega))
      have HI1 := hid (HIN1.out k)
      have HI2 := hid (HIN2.out k)
      have HKP := hid (Fs.knowsW_put DL SL k D HK.out)
      have HKS := hid (Fs.knowsW_skip DL SL k D HK.out)
      have hsn : Fs.keep DL SL 0 (NL.take (k + 1)) = K0 ++ (if Fs.nmd DL (k : Int) || Fs.nmd SL (k : Int) then [NL[k]] else []) := by
        rw [List.take_succ_eq_append_getElem hka, Fs.keep_snoc, ← hK0, List.length_take, Nat.zero_add, Nat.min_eq_left (by omega)]
      rw [← hp] at HKP
      have he1 := hid e1
      clear c1 e1 hK0 hp HK
      generalize NL[k] = x at *
      clear hka
      obtain ⟨s, t⟩ := x
      simp only at d0 d1
      have e1 := he1.out
      subst e1
      have HKR := hid (show ∀ b, Fs.keep DL SL 0 (NL.take (k + 1)) = K0 ++ (if b then [(s, t)] else []) → (b = true → Fs.keep DL SL 0 (NL.take (k + 1)) = K0 ++ [(s, t)]) ∧ (b = false → Fs.keep DL SL 0 (NL.take (k + 1)) = K0) from fun b h => ⟨fun e => by rw [h, e]; rfl, fun e => by rw [h, e]; simp⟩)
      cases h1 : Fs.nmd DL (k : Int) with
      | true =>
        rw [h1] at HI1 hsn hfs
        have HFS := hid (show Fs.few DL SL (k + 1) = p + 1 by rw [hfs]; rfl)
        have HSN := hid ((HKR.out _ hsn).1 rfl)
        clear h1 hsn hfs hpk HKS HKR
        go_wp2_with (first | (go_at_call 50; go_loud (refine (HI1.out _ (Ext.new X0.out _)).mono ?_; rintro e w4 ⟨rfl, x4⟩; have X4 := hid (Ext.then ((ext_refl wr).new (.cells #[.string s, .string t] 49)) x4); have e0 := ext_cell x4 ((Blk.new wr 49 #[.string s, .string t]).cell 0); have e1 := ext_cell x4 ((Blk.new wr 49 #[.string s, .string t]).cell 1); have f2 := ext_cell X4.out g2; clear x4 HI1)) | (at_mapUpdate; go_loud (refine wpList_mapUpdate_own _ rfl _ _ _ 140 rfl 3 3 (int_keyed Tryd.underlying3) Tryd.underlying140 _ (w.heap.size + 1) p _ rfl (fmap_keep HMP.out X4.out) HPM.out _ _ _ rfl rfl hkey _ [] (plainElem_int Tryd.underlying3 (WalkArith.wf_i64 (by omega))) ?_; intro w5 hown5 hgrow5; have HMP5 := hid hown5; have HO5 := hid (own_but (own_ext HO.out X4.out) hgrow5 (Nat.lt_succ_self _)); have HX5 := hid (Below.grown (Below.trans HX.out (Below.mono X4.out HS.out)) hgrow5 (Nat.le_trans HS.out X4.out.size) (fun j hj => by cases hj; exact Nat.le_refl _)); have k0 := hgrow5.cell e0 HNE.out; have k1 := hgrow5.cell e1 HNE.out; have HS5 := hid (Nat.le_trans HS2.out (Nat.le_trans X4.out.size hgrow5.size)); clear hown5 hgrow5 e0 e1)) | (at_builtin; go_loud (refine wpList_app rfl (.tmp 42) (.tmp 44) rowNo rfl _ p (nds K0) rfl (own_ext HO5.out (Ext.new (ext_refl _) _)) _ 1 (nds [(s, t)]) rfl (Src.rd Tryd.underlying22 _ 1 1 _ rfl (rd_lit rfl rfl) (nds_one _) (fun h => by cases h)) (by have := HPM.out; simp only [maxLen] at *; omega) (by have := HP24.out; omega) (by have := HS5.out; simp; omega) ?_; intro v' w9 hown9 hgrow hat hbel; have HO9 := hid hown9; have XB9 := hid (Below.trans (Below.mono (Ext.new (ext_refl w5) (.cells #[.string s, .string t] 49)) HS5.out) hbel); clear hown9 hgrow hat hbel)))
        go_roundw
        case rel => exact ⟨k + 1, _, by omega, by go_num, by rw [HFS.out, HSN.out, nds_app]; exact HO9, by rw [HFS.out]; exact hid (fmap_below HMP5.out XB9.out (Nat.lt_succ_self _)), HKP, hid (HX5.out.trans (Below.mono XB9.out (Nat.le_succ _)))⟩
        case measure => simp [intOf] <;> omega
      | false =>
        cases h2 : Fs.nmd SL (k : Int) with
        | true =>
          rw [h1] at HI1 hsn hfs
          rw [h2] at HI2 hsn hfs
          have HFS := hid (show Fs.few DL SL (k + 1) = p + 1 by rw [hfs]; rfl)
          have HSN := hid ((HKR.out _ hsn).1 rfl)
          clear h1 h2 hsn hfs hpk HKS HKR
          go_wp2_with (first | (go_at_call 50; go_loud (refine (HI1.out _ (Ext.new X0.out _)).mono ?_; rintro e w4 ⟨rfl, x4⟩; have X4 := hid (Ext.then ((ext_refl wr).new (.cells #[.string s, .string t] 49)) x4); have e0 := ext_cell x4 ((Blk.new wr 49 #[.string s, .string t]).cell 0); have e1 := ext_cell x4 ((Blk.new wr 49 #[.string s, .string t]).cell 1); have f2 := ext_cell X4.out g2; clear x4 HI1)) | (go_at_call 50; go_loud (refine (HI2.out _ (Ext.then X0.out X4.out)).mono ?_; rintro e w6 ⟨rfl, x6⟩; have X6 := hid (Ext.then X4.out x6); have h0 := ext_cell x6 e0; have h1 := ext_cell x6 e1; clear x6 HI2 f2 e0 e1)) | (at_mapUpdate; go_loud (refine wpList_mapUpdate_own _ rfl _ _ _ 140 rfl 3 3 (int_keyed Tryd.underlying3) Tryd.underlying140 _ (w.heap.size + 1) p _ rfl (fmap_keep HMP.out X6.out) HPM.out _ _ _ rfl rfl hkey _ [] (plainElem_int Tryd.underlying3 (WalkArith.wf_i64 (by omega))) ?_; intro w5 hown5 hgrow5; have HMP5 := hid hown5; have HO5 := hid (own_but (own_ext HO.out X6.out) hgrow5 (Nat.lt_succ_self _)); have HX5 := hid (Below.grown (Below.trans HX.out (Below.mono X6.out HS.out)) hgrow5 (Nat.le_trans HS.out X6.out.size) (fun j hj => by cases hj; exact Nat.le_refl _)); have k0 := hgrow5.cell h0 HNE.out; have k1 := hgrow5.cell h1 HNE.out; have HS5 := hid (Nat.le_trans HS2.out (Nat.le_trans X6.out.size hgrow5.size)); clear hown5 hgrow5 h0 h1)) | (at_builtin; go_loud (refine wpList_app rfl (.tmp 42) (.tmp 44) rowNo rfl _ p (nds K0) rfl (own_ext HO5.out (Ext.new (ext_refl _) _)) _ 1 (nds [(s, t)]) rfl (Src.rd Tryd.underlying22 _ 1 1 _ rfl (rd_lit rfl rfl) (nds_one _) (fun h => by cases h)) (by have := HPM.out; simp only [maxLen] at *; omega) (by have := HP24.out; omega) (by have := HS5.out; simp; omega) ?_; intro v' w9 hown9 hgrow hat hbel; have HO9 := hid hown9; have XB9 := hid (Below.trans (Below.mono (Ext.new (ext_refl w5) (.cells #[.string s, .string t] 49)) HS5.out) hbel); clear hown9 hgrow hat hbel)))
          go_roundw
          case rel => exact ⟨k + 1, _, by omega, by go_num, by rw [HFS.out, HSN.out, nds_app]; exact HO9, by rw [HFS.out]; exact hid (fmap_below HMP5.out XB9.out (Nat.lt_succ_self _)), HKP, hid (HX5.out.trans (Below.mono XB9.out (Nat.le_succ _)))⟩
          case measure => simp [intOf] <;> omega
        | false =>
          have HKN := hid (HKS.out (by rw [h1, h2]; rfl))
          rw [h1] at HI1 hsn hfs
          rw [h2] at HI2 hsn hfs
          have HFS := hid (show Fs.few DL SL (k + 1) = p by rw [hfs]; rfl)
          have HSN := hid ((HKR.out _ hsn).2 rfl)
          clear h1 h2 hsn hfs hpk HKS HKR HKP
          go_wp2_with (first | (go_at_call 50; go_loud (refine (HI1.out _ (Ext.new X0.out _)).mono ?_; rintro e w4 ⟨rfl, x4⟩; have X4 := hid (Ext.then ((ext_refl wr).new (.cells #[.string s, .string t] 49)) x4); have e0 := ext_cell x4 ((Blk.new wr 49 #[.string s, .string t]).cell 0); have e1 := ext_cell x4 ((Blk.new wr 49 #[.string s, .string t]).cell 1); have f2 := ext_cell X4.out g2; clear x4 HI1)) | (go_at_call 50; go_loud (refine (HI2.out _ (Ext.then X0.out X4.out)).mono ?_; rintro e w6 ⟨rfl, x6⟩; have X6 := hid (Ext.then X4.out x6); have h0 := ext_cell x6 e0; have h1 := ext_cell x6 e1; clear x6 HI2 f2 e0 e1)))
          go_roundw
          case rel => exact ⟨k + 1, _, by omega, by go_num, by rw [HFS.out, HSN.out]; exact hid (own_ext HO.out X6.out), by rw [HFS.out]; exact hid (fmap_keep HMP.out X6.out), HKN, hid (HX.out.trans (Below.mono X6.out HS.out))⟩
          case measure => simp [intOf] <;> omega
    · obtain rfl : k = n := by omega
      clear hlt
      have g1r := cell_regrown g1
      have g2r := cell_regrown g2
      go_wp2
      refine wp_region_walk [(0, true), (1, true), (2, true), (3, true), (4, true), (5, true), (6, true), (7, true), (8, true), (9, true), (12, true), (10, false), (11, false)] (by kernel_rfl) (by kernel_rfl) (fun _ _ _ _ _ h => h) (by kernel_rfl) (by rfl) ?_
      simp only [List.filterMap_cons, List.filterMap_nil, List.getElem?_toArray, List.getElem?_cons_zero, List.getElem?_cons_succ, Option.map_some]
      repeat (refine wpM_val (by rfl) ?_; intro K hK; go_big_quiet_op; go_big_quiet_on)
      refine wpM_do (by rfl) ?_
      intro K hK
      go_simp
      have YY : Ext wr (wr.alloc (.cells #[.slice A2 m c2, .slice A3 q c3] 23)).drew := Ext.draw (Ext.new (ext_refl _) _)
      have LB : Blk (wr.alloc (.cells #[.slice A2 m c2, .slice A3 q c3] 23)).drew wr.heap.size 23 #[.slice A2 m c2, .slice A3 q c3] := Blk.drew (Blk.new _ _ _)
      refine hK _ _ YY ?_
      clear K hK
      refine wpM_do (by rfl) ?_
      intro K hK
      go_simp
      refine hK _ _ YY ?_
      clear K hK
      generalize (wr.alloc (.cells #[.slice A2 m c2, .slice A3 q c3] 23)).drew = y at YY LB ⊢
      refine wpM_nil ?_
      have HLB := hid LB
      have XY : Hid (Ext w y) := hid (X0.out.then YY)
      have HO2y := hid (own_ext HO2.out XY.out)
      have HO3y := hid (own_ext HO3.out XY.out)
      have HOy := hid (own_ext HO.out YY)
      have HMy := hid (fmap_keep HMP.out YY)
      have BGy := hid (HBLK.out.keep XY.out)
      have BRy := hid (BR.out.below (Below.trans HX.out (Below.mono YY HS.out)) (Nat.lt_succ_self _))
      have HKy := HK
      obtain ⟨V2, hV2⟩ : ∃ V2, V2 = Value.slice A2 m c2 := ⟨_, rfl⟩
      obtain ⟨V3, hV3⟩ : ∃ V3, V3 = Value.slice A3 q c3 := ⟨_, rfl⟩
      rw [← hV2] at HO2y
      rw [← hV3] at HO3y
      have HV2 := hid hV2
      have HV3 := hid hV3
      have HNEV2 := hid (show V2.ownBlock ≠ some (w.heap.size + 1) from fun e => by have h := (own_block_rng HO2.out (by rw [← hV2]; exact e)).2; omega)
      have HNEV3 := hid (show V3.ownBlock ≠ some (w.heap.size + 1) from fun e => by have h := (own_block_rng HO3.out (by rw [← hV3]; exact e)).2; omega)
      have HD32 := hid (show V3.ownBlock = none ∨ V3.ownBlock ≠ V2.ownBlock from by
        rw [hV2, hV3]
        cases A3 with
        | none => exact .inl rfl
        | some a3 =>
          right
          cases A2 with
          | none => intro e; cases e
          | some a2 => intro e; have e := Option.some.inj e; exact HDJ.out a2 a3 rfl rfl e.symm)
      have HD23 := hid (show V2.ownBlock = none ∨ V2.ownBlock ≠ V3.ownBlock from by
        rcases HD32.out with h | h
        · rw [h]
          cases hh : V2.ownBlock with
          | none => exact .inl rfl
          | some b => right; intro e; cases e
        · right; exact fun e => h e.symm)
      have HV2L := hid (show ∀ b, w.heap.size ≤ b → V2.ownBlock ≠ some b from fun b hb e => by have h := (own_block_rng HO2.out (by rw [← hV2]; exact e)).2; omega)
      have HV3L := hid (show ∀ b, w.heap.size ≤ b → V3.ownBlock ≠ some b from fun b hb e => by have h := (own_block_rng HO3.out (by rw [← hV3]; exact e)).2; omega)
      have HV2B := hid (show ∀ b, V2.ownBlock = some b → base ≤ b from fun b e => (own_block_rng HO2.out (by rw [← hV2]; exact e)).1)
      have HV3B := hid (show ∀ b, V3.ownBlock = some b → base ≤ b from fun b e => (own_block_rng HO3.out (by rw [← hV3]; exact e)).1)
      have HVg : ∀ V A mm cc L, V = Value.slice A mm cc → w.ownsRow base 47 2 (Value.slice A mm cc) mm L → V.ownBlock ≠ some g := fun V A mm cc L hV ho e => by
        subst hV
        cases A with
        | none => cases e
        | some a =>
          rcases ho.2 with ⟨h, _⟩ | ⟨g', c', cur, hv, _, hg, _⟩
          · cases h
          · injection hv with h1
            injection h1 with h1
            subst h1
            have e := Option.some.inj e
            simp only at e
            subst e
            exact Blk.ne (show Blk w g' 47 cur from hg) HBLK.out (by decide) rfl
      have HDg2 := hid (HVg V2 A2 m c2 _ hV2 HO2.out)
      have HDg3 := hid (HVg V3 A3 q c3 _ hV3 HO3.out)
      clear HVg
      have HD9 := hid (show ∀ V : Value, (∀ b, w.heap.size ≤ b → V.ownBlock ≠ some b) → (Value.slice A9 p c9).ownBlock = none ∨ (Value.slice A9 p c9).ownBlock ≠ V.ownBlock from fun V hV => by
        cases A9 with
        | none => exact .inl rfl
        | some a9 =>
          right
          intro e
          exact hV _ (by have h := (own_block_rng HO.out rfl).1; omega) e.symm)
      have HD92 := hid (HD9.out V2 HV2L.out)
      have HD93 := hid (HD9.out V3 HV3L.out)
      have HDr2 := hid (HV2L.out w.heap.size (Nat.le_refl _))
      have HDr3 := hid (HV3L.out w.heap.size (Nat.le_refl _))
      have HDl2 := hid (HV2L.out wr.heap.size X0.out.size)
      have HDl3 := hid (HV3L.out wr.heap.size X0.out.size)
      clear HD9
      have l0 := LB.cell 0
      have l1 := LB.cell 1
      clear g0 g1 g2 g1r g2r LB YY HK HO HMP hV2 hV3 BG
      go_wp2
      refine wp_loop_rounds 3 ?_
      rw [rounds_succ]
      go_wp2_with fail
      go_loopw [65] (fun cc ws => ∃ j : Nat, j ≤ m ∧ cc = .int .i64 j ∧ Hid (ws.ownsRow base 47 2 V2 m (ens (Fs.movk DL SL DL j))) ∧ Hid (y.grownBy ws V2.ownBlock)) (fun cc _ => m - (intOf cc).toNat)
      case atStart => exact ⟨0, Nat.zero_le _, rfl, by rw [Fs.movk_zero]; exact HO2y, hid ⟨rfl, rfl, rfl, Nat.le_refl _, fun _ _ _ => rfl⟩⟩
      case round =>
        obtain ⟨j, hj, rfl, HOj, HGj⟩ := hrel
        by_cases hlt : j < m
        · have hjl : j < DL.length := by rw [← HM.out]; exact hlt
          have ho := HOj.out
          rw [HV2.out] at ho
          obtain ⟨b2, e2⟩ := own_some ho (by omega)
          have hrd := (own_rd ho).1
          rw [e2] at hrd ho
          obtain ⟨cur, hcur⟩ := own_block ho
          have hfz := hcur.frozen (j * 2 + 1)
          have hjm : j < (Fs.movk DL SL DL j).length := by rw [Fs.movk_len]; exact hjl
          obtain ⟨b3, o3, e3, l3, c3'⟩ := hrd.ents j hjm
          cases e3
          have hat := Fs.movk_at DL SL DL j hjl
          rw [List.getElem?_eq_getElem hjm] at hat
          injection hat with hat
          have d0 := (c3' j hjm).1
          have d1 := (c3' j hjm).2
          rw [hat] at d0 d1
          rw [Nat.zero_add] at d0 d1
          have HEN := hid (Fs.movk_ens DL SL DL j hjl)
          obtain ⟨hx0, hx1⟩ := HGD.out _ (List.getElem_mem hjl)
          have hnm : (Fs.nmd DL DL[j].2 || Fs.nmd SL DL[j].2) = true := by rw [Bool.or_eq_true, Fs.nmd_iff, Fs.nmd_iff]; first | exact .inl (List.mem_map.2 ⟨_, List.getElem_mem hjl, rfl⟩) | exact .inr (List.mem_map.2 ⟨_, List.getElem_mem hjl, rfl⟩)
          have hcast : ((DL[j].2.toNat : Nat) : Int) = DL[j].2 := by omega
          have HAT := hid (fun z => (by
            have h := HKy.out.2 DL[j].2.toNat (by omega) (by rw [hcast]; exact hnm) z
            rw [hcast] at h; exact h : D.atKey (.int .i64 DL[j].2) z = .lit (.int .i64 ((Fs.few DL SL DL[j].2.toNat : Nat) : Int))))
          have hkey : keyOf Tryd.prog 3 (.int .i64 DL[j].2) = some (.int .i64 DL[j].2) := keyOf_int_mk Tryd.underlying3 (WalkArith.wf_i64 (by omega))
          have HVB := hid (show V2.ownBlock = some b2 by rw [HV2.out, e2]; rfl)
          have HMj := hid (fmap_grown HMy.out HGj.out HNEV2.out)
          have hjI : (j : Int) < (m : Int) := by omega
          obtain ⟨pp, hpp⟩ : ∃ pp, pp = Fs.few DL SL DL[j].2.toNat := ⟨_, rfl⟩
          rw [← hpp] at HAT HEN
          have hE2 := hid e2
          clear hat hnm hcast hx0 hx1 hpp ho hrd c3' e2 hcur cur
          generalize DL[j] = x at *
          obtain ⟨s, node⟩ := x
          simp only at d0 d1 HAT hkey HEN
          have e2 := hE2.out
          clear hjl hjm
          subst e2
          go_wp2_with (at_lookup; go_loud (refine wpList_lookup_own_int _ rfl _ _ 140 rfl 3 3 .i64 (int_keyed Tryd.underlying3) Tryd.underlying140 Tryd.underlying3 (fzeroI _) (w.heap.size + 1) p _ rfl HMj.out _ _ rfl hkey ?_; intro cz hatz hwc; rw [HAT.out] at hatz; obtain rfl : (pp : Int) = cz := (by simpa using hatz); clear hatz hwc))
          go_roundw
          case rel => exact ⟨j + 1, by omega, by go_num, by rw [← HEN.out]; exact hid (own_set HOj.out HV2.out _ _), by rw [HVB.out]; exact hid (But.put (g := b2) (by have hh := HGj.out; rw [HVB.out] at hh; exact hh) _ (.inl rfl) _)⟩
          case measure => simp [intOf] <;> omega
        · obtain rfl : m = j := by omega
          rw [HM.out, Fs.movk_all, ← HM.out] at HOj
          have HGa := HGj
          have HO2a := HOj
          generalize wr = ya at *
          have HO3a := hid (HO3y.out.kept HGa.out HD32.out)
          have HOa := hid (HOy.out.kept HGa.out HD92.out)
          have HMa := hid (fmap_grown HMy.out HGa.out HNEV2.out)
          have BGa := hid (Blk.grown BGy.out HGa.out HDg2.out)
          have BRa := hid (Blk.grown BRy.out HGa.out HDr2.out)
          have HLa := hid (Blk.grown HLB.out HGa.out HDl2.out)
          clear l0 l1
          have l0 := HLa.out.cell 0
          have l1 := HLa.out.cell 1
          clear hlt HOj HGj
          go_wp2
          rw [rounds_succ]
          go_wp2_with fail
          go_loopw [65] (fun cc ws => ∃ j : Nat, j ≤ q ∧ cc = .int .i64 j ∧ Hid (ws.ownsRow base 47 2 V3 q (ens (Fs.movk DL SL SL j))) ∧ Hid (ya.grownBy ws V3.ownBlock)) (fun cc _ => q - (intOf cc).toNat)
          case atStart => exact ⟨0, Nat.zero_le _, rfl, by rw [Fs.movk_zero]; exact HO3a, hid ⟨rfl, rfl, rfl, Nat.le_refl _, fun _ _ _ => rfl⟩⟩
          case round =>
            obtain ⟨j, hj, rfl, HOj, HGj⟩ := hrel
            by_cases hlt : j < q
            · have hjl : j < SL.length := by rw [← HQ.out]; exact hlt
              have ho := HOj.out
              rw [HV3.out] at ho
              obtain ⟨b2, e2⟩ := own_some ho (by omega)
              have hrd := (own_rd ho).1
              rw [e2] at hrd ho
              obtain ⟨cur, hcur⟩ := own_block ho
              have hfz := hcur.frozen (j * 2 + 1)
              have hjm : j < (Fs.movk DL SL SL j).length := by rw [Fs.movk_len]; exact hjl
              obtain ⟨b3, o3, e3, l3, c3'⟩ := hrd.ents j hjm
              cases e3
              have hat := Fs.movk_at DL SL SL j hjl
              rw [List.getElem?_eq_getElem hjm] at hat
              injection hat with hat
              have d0 := (c3' j hjm).1
              have d1 := (c3' j hjm).2
              rw [hat] at d0 d1
              rw [Nat.zero_add] at d0 d1
              have HEN := hid (Fs.movk_ens DL SL SL j hjl)
              obtain ⟨hx0, hx1⟩ := HGS.out _ (List.getElem_mem hjl)
              have hnm : (Fs.nmd DL SL[j].2 || Fs.nmd SL SL[j].2) = true := by rw [Bool.or_eq_true, Fs.nmd_iff, Fs.nmd_iff]; first | exact .inl (List.mem_map.2 ⟨_, List.getElem_mem hjl, rfl⟩) | exact .inr (List.mem_map.2 ⟨_, List.getElem_mem hjl, rfl⟩)
              have hcast : ((SL[j].2.toNat : Nat) : Int) = SL[j].2 := by omega
              have HAT := hid (fun z => (by
                have h := HKy.out.2 SL[j].2.toNat (by omega) (by rw [hcast]; exact hnm) z
                rw [hcast] at h; exact h : D.atKey (.int .i64 SL[j].2) z = .lit (.int .i64 ((Fs.few DL SL SL[j].2.toNat : Nat) : Int))))
              have hkey : keyOf Tryd.prog 3 (.int .i64 SL[j].2) = some (.int .i64 SL[j].2) := keyOf_int_mk Tryd.underlying3 (WalkArith.wf_i64 (by omega))
              have HVB := hid (show V3.ownBlock = some b2 by rw [HV3.out, e2]; rfl)
              have HMj := hid (fmap_grown HMa.out HGj.out HNEV3.out)
              have hjI : (j : Int) < (q : Int) := by omega
              obtain ⟨pp, hpp⟩ : ∃ pp, pp = Fs.few DL SL SL[j].2.toNat := ⟨_, rfl⟩
              rw [← hpp] at HAT HEN
              have hE2 := hid e2
              clear hat hnm hcast hx0 hx1 hpp ho hrd c3' e2 hcur cur
              generalize SL[j] = x at *
              obtain ⟨s, node⟩ := x
              simp only at d0 d1 HAT hkey HEN
              have e2 := hE2.out
              clear hjl hjm
              subst e2
              go_wp2_with (at_lookup; go_loud (refine wpList_lookup_own_int _ rfl _ _ 140 rfl 3 3 .i64 (int_keyed Tryd.underlying3) Tryd.underlying140 Tryd.underlying3 (fzeroI _) (w.heap.size + 1) p _ rfl HMj.out _ _ rfl hkey ?_; intro cz hatz hwc; rw [HAT.out] at hatz; obtain rfl : (pp : Int) = cz := (by simpa using hatz); clear hatz hwc))
              go_roundw
              case rel => exact ⟨j + 1, by omega, by go_num, by rw [← HEN.out]; exact hid (own_set HOj.out HV3.out _ _), by rw [HVB.out]; exact hid (But.put (g := b2) (by have hh := HGj.out; rw [HVB.out] at hh; exact hh) _ (.inl rfl) _)⟩
              case measure => simp [intOf] <;> omega
            · obtain rfl : q = j := by omega
              rw [HQ.out, Fs.movk_all, ← HQ.out] at HOj
              have HGb := HGj
              have HO3b := HOj
              generalize wr = yb at *
              have HO2b := hid (HO2a.out.kept HGb.out HD23.out)
              have HOb := hid (HOa.out.kept HGb.out HD93.out)
              have BGb := hid (Blk.grown BGa.out HGb.out HDg3.out)
              have BRb := hid (Blk.grown BRa.out HGb.out HDr3.out)
              have HLb := hid (Blk.grown HLa.out HGb.out HDl3.out)
              clear l0 l1
              have l0 := HLb.out.cell 0
              have l1 := HLb.out.cell 1
              have g0 := BGb.out.cell 0
              have g1 := BGb.out.cell 1
              have g2 := BGb.out.cell 2
              have hf0 := BGb.out.frozen 0
              have q0 := BRb.out.cell 0
              have q1 := BRb.out.cell 1
              have q2 := BRb.out.cell 2
              have fq0 := BRb.out.frozen 0
              have fq1 := BRb.out.frozen 1
              have fq2 := BRb.out.frozen 2
              have hgw := HBLK.out.lt
              have hgn : ¬ g = w.heap.size := by omega
              have hgn2 : ¬ w.heap.size = g := by omega
              clear hlt HOj HGj
              go_wp2
              rw [rounds_succ]
              go_wp2
              have HWk := HN.out
              have hkl := Fs.keep_len DL SL NL
              rw [← HWk, ← hp] at hkl
              have hK : K0 = Fs.keep DL SL 0 NL := by rw [hK0, HWk, List.take_length]
              rw [hK] at HOb
              have G1 : But g yb _ := But.put (but_refl g yb) ⟨g, 0, none⟩ (.inl rfl) (.slice A9 (Fs.few DL SL k) c9)
              have B0 : Below base w y := Below.mono XY.out HBW.out
              have B1 : Below base w ya := B0.grown HGa.out (Nat.le_trans HBW.out XY.out.size) (fun j hj => HV2B.out j hj)
              have B2 : Below base w yb := B1.grown HGb.out (Nat.le_trans HBW.out B1.size) (fun j hj => HV3B.out j hj)
              have B3 := B2.grown G1 (Nat.le_trans HBW.out B2.size) (fun j hj => by cases hj; exact HBG.out)
              have hmv2 : (Fs.mov DL SL DL).length = m := by rw [Fs.mov_len]; exact HM.out.symm
              have hmv3 : (Fs.mov DL SL SL).length = q := by rw [Fs.mov_len]; exact HQ.out.symm
              have K1 := HOb.out.kept G1 (by
                cases A9 with
                | none => exact .inl rfl
                | some a9 => right; intro e; have h := (own_block_rng HOb.out rfl).1; have e := Option.some.inj e; (try simp only at e h); omega)
              have K2 := HO2b.out.kept G1 (.inr HDg2.out)
              have K3 := HO3b.out.kept G1 (.inr HDg3.out)
              rw [← hp] at G1 K1 K2 K3 B3 ⊢
              have HBB := BRb.out.far (p := ⟨g, 0, none⟩) hgn2 (.slice A9 p c9)
              generalize yb.setCell ⟨g, 0, none⟩ (.slice A9 p c9) = z at *
              have HBF := hid ((((HBB.set 0 (.slice A9 p c9)).set 1 (.slice A2 m c2)).set 2 (.slice A3 q c3)).cast (cs' := #[.slice A9 p c9, .slice A2 m c2, .slice A3 q c3]) (by simp))
              have GA : But w.heap.size z _ := But.put (but_refl _ z) ⟨w.heap.size, 0, none⟩ (.inl rfl) (.slice A9 p c9)
              have GB : But w.heap.size z _ := But.put GA ⟨w.heap.size, 1, none⟩ (.inl rfl) (.slice A2 m c2)
              have GF : But w.heap.size z _ := But.put GB ⟨w.heap.size, 2, none⟩ (.inl rfl) (.slice A3 q c3)
              have L1 := K1.kept GF (by
                cases A9 with
                | none => exact .inl rfl
                | some a9 => right; intro e; have h := (own_block_rng K1 rfl).1; have e := Option.some.inj e; (try simp only at e h); omega)
              have L2 := K2.kept GF (.inr HDr2.out)
              have L3 := K3.kept GF (.inr HDr3.out)
              rw [HV2.out] at L2
              rw [HV3.out] at L3
              refine bodyPost_ret (results_blk rfl _ _ w.heap.size 25 _ _ rfl HBF.out Tryd.underlying25 rfl (by kernel_rfl)) rfl ?_
              refine ⟨_, rfl, ⟨A9, c9, A2, c2, A3, c3, ?_, ?_, ?_, ?_⟩, B3.grown GF (Nat.le_trans HBW.out B3.size) (fun j hj => by cases hj; exact HBW.out)⟩
              · simp only; rw [hkl, hmv2, hmv3]
              · simp only; rw [hkl]; exact own_low' L1 (Nat.le_trans HBW.out (Nat.le_add_right _ _))
              · simp only; rw [hmv2]; exact L2
              · simp only; rw [hmv3]; exact L3
end Go.Proofs.YtolhifnlahllnaaDoor
