/- The document's RankOf, SelectOf, NotOf; TrailingZeros: walks. -/
import Derived.Test.YtikdmnedbfpkeaaDoorMka
namespace Hy.Mrk
def nots (l : List Bool) : List Bool := l.map fun b => !b
theorem nots_take (l : List Bool) (k : Nat) (h : k < l.length) : nots (l.take (k + 1)) = nots (l.take k) ++ [!l[k]] := by
  unfold nots; rw [List.take_succ_eq_append_getElem h, List.map_append]; rfl
theorem nots_len (l : List Bool) : (nots l).length = l.length := List.length_map _
/-- the place of the k-th mark (counted from 0), or none: from i on -/
def sel : List Bool → Nat → Nat → Option Nat
  | [], _, _ => none
  | true :: _, 0, i => some i
  | true :: l, k + 1, i => sel l k (i + 1)
  | false :: l, k, i => sel l k (i + 1)
theorem sel_none' : ∀ (l : List Bool) (k i : Nat), l = [] → sel l k i = none := fun l k i h => by subst h; rfl
def selV (l : List Bool) (k : Int) : Int × Int := if k < 0 then (0, 3) else match sel l k.toNat 0 with | some i => (i, 0) | none => (0, 5)
def rankV (l : List Bool) (at' : Int) : Int × Int := if at' < 0 ∨ (l.length : Int) < at' then (0, 3) else ((l.take at'.toNat).count true, 0)
end Hy.Mrk
namespace Go.Proofs.YtikdmnedbfpkeaaDoor
open Go.RowKit Hy
set_option maxHeartbeats 800000 in
theorem rankOf_any (l : List Bool) (at' : Int) (A : Option Addr) (n cap : Nat) (w : World) (hn : l.length = n) (hr : Rd w A (bls l)) (hnl : n ≤ 140737488355328) :
    Calls Tryd.prog 11 #[.slice A n cap, .int .i64 at'] w fun e w' => e = .returned (.tuple #[.int .i64 (Mrk.rankV l at').1, .int .i64 (Mrk.rankV l at').2]) ∧ w = w' := by
  have HN := hid hn
  have HC := hid (fun (k : Nat) (h : k ≤ n) => countOf_any l k A n cap w hn hr h hnl)
  by_cases h1 : at' < 0 ∨ (n : Int) < at'
  · have HV := hid (show Mrk.rankV l at' = (0, 3) by unfold Mrk.rankV; rw [if_pos (by rw [hn]; exact h1)])
    obtain ⟨V, hV⟩ : ∃ V, V = Mrk.rankV l at' := ⟨_, rfl⟩
    rw [← hV] at HV ⊢
    clear hn hr hV HC
    go_enter Tryd.func11, Tryd.ntmps11
    rcases h1 with h1 | h1
    · go_wp2
      go_returns
      exact ⟨by rw [HV.out]; rfl, rfl⟩
    · have h0 : ¬ at' < 0 := by omega
      go_wp2
      go_returns
      exact ⟨by rw [HV.out]; rfl, rfl⟩
  · obtain ⟨k, rfl⟩ := Int.eq_ofNat_of_zero_le (show 0 ≤ at' by omega)
    have HV := hid (show Mrk.rankV l (k : Int) = ((((l.take k).count true : Nat) : Int), 0) by unfold Mrk.rankV; rw [if_neg (by rw [hn]; exact h1), Int.toNat_natCast])
    have h2 : ¬ (n : Int) < (k : Int) := by omega
    have HC' := hid (HC.out k (by omega))
    obtain ⟨V, hV⟩ : ∃ V, V = Mrk.rankV l (k : Int) := ⟨_, rfl⟩
    rw [← hV] at HV ⊢
    clear hn hr hV HC h1
    go_enter Tryd.func11, Tryd.ntmps11
    go_wp2_with fail
    refine Calls.mono HC'.out ?_
    rintro e _ ⟨rfl, rfl⟩
    go_wp2
    go_returns
    exact ⟨by rw [HV.out]; rfl, rfl⟩
set_option maxHeartbeats 1600000 in
theorem notOf_any (l : List Bool) (A : Option Addr) (n cap : Nat) (w : World) (hn : l.length = n) (hr : Rd w A (bls l)) (hnl : n ≤ 140737488355328) :
    Calls Tryd.prog 23 #[.slice A n cap] w fun e w' => (64 < n ∧ e = .returned (.tuple #[.slice none 0 0, .int .i64 2]) ∧ Ext w w') ∨ (n ≤ 64 ∧ ∃ B c, e = .returned (.tuple #[.slice B n c, .int .i64 0]) ∧ Rd w' B (bls (Mrk.nots l)) ∧ Ext w w') := by
  have HN := hid hn
  have HA := hid hr
  have hnI : (n : Int) ≤ 140737488355328 := by omega
  clear hn hr
  by_cases h64 : 64 < n
  · have h64I : (64 : Int) < (n : Int) := by omega
    have H64 := hid h64
    clear h64 hnl
    go_enter Tryd.func23, Tryd.ntmps23
    go_wp2
    go_returns
    exact .inl ⟨H64.out, rfl, ext_refl _⟩
  · have h64I : ¬ (64 : Int) < (n : Int) := by omega
    have H64 := hid (show n ≤ 64 by omega)
    clear h64 hnl
    go_enter Tryd.func23, Tryd.ntmps23
    go_wp2
    go_loopw [4, 5] (fun x c wr => ∃ k : Nat, k ≤ n ∧ c = .int .i64 k ∧ wr.ownsRow w.heap.size 4 1 x k (bls (Mrk.nots (l.take k))) ∧ Ext w wr) (fun _ c _ => n - (intOf c).toNat)
    case atStart => exact ⟨0, Nat.zero_le _, rfl, World.ownsRow_nil _ _ _ _, ext_refl _⟩
    case round =>
      obtain ⟨k, hk, rfl, hown, X⟩ := hrel
      by_cases hlt : k < n
      · have hka : k < l.length := by rw [HN.out]; exact hlt
        obtain ⟨b1, o1, e1, l1, c1⟩ := HA.out.bool (by omega)
        subst e1
        have d0 := (X.cell (p := ⟨b1, o1 + k, none⟩) l1).trans (c1 k hka)
        have HE := hid (Mrk.nots_take l k hka)
        have HO := hid hown
        generalize l[k] = c at *
        generalize Mrk.nots (l.take k) = D at *
        clear c1 hka hown
        go_wp2_with (at_builtin; go_loud (refine wpList_app rfl (.tmp 15) (.tmp 21) rowBl rfl _ k (bls D) rfl (own_ext HO.out (Ext.new (ext_refl _) _)) _ 1 (bls [!c]) rfl (Src.rd Tryd.underlying22 _ 1 1 _ rfl (rd_lit rfl rfl) (bls_one _) (fun h => by cases h)) (by have := H64.out; simp only [maxLen]; omega) (by have := H64.out; omega) (by have := X.size; simp; omega) ?_; intro v' w5 hown5 hgrow hat hbel))
        go_roundw
        case rel => exact ⟨k + 1, by omega, by go_num, by rw [HE.out, bls_app]; exact hown5, (Ext.new X _).trans hbel⟩
        case measure => simp [intOf]; omega
      · obtain rfl : k = n := by omega
        obtain ⟨B, c, rfl, hrd, hB, hc, hcm⟩ := Rd.owned hown
        have HRD := hid hrd
        clear hown hrd hB hc hcm
        go_wp2
        go_returns
        have e : l.take k = l := List.take_of_length_le (by rw [HN.out]; exact Nat.le_refl _)
        rw [e] at HRD
        exact .inr ⟨H64.out, B, c, rfl, HRD.out, X⟩
end Go.Proofs.YtikdmnedbfpkeaaDoor
