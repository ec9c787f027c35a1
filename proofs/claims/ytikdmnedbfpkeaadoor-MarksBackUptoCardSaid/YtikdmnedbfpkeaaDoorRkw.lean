/- And, Or, Not, MarksOf, NotOf, Of: one contract each, errors too. -/
import Derived.Test.YtikdmnedbfpkeaaDoorRkp
import Derived.Test.YtikdmnedbfpkeaaDoorRku
import Derived.Test.YtikdmnedbfpkeaaDoorRkv
import Derived.Test.YtikdmnedbfpkeaaDoorRkc
import Derived.Test.YtikdmnedbfpkeaaDoorRkd
import Derived.Test.YtikdmnedbfpkeaaDoorRke
namespace Hy.Mrk
open Go Go.RowKit Hy
def bothV (f : List Bool → Bool) (a b : List Bool) : List Bool × Int :=
  if 64 < a.length ∨ 64 < b.length then ([], 2) else if a.length ≠ b.length then ([], 1) else (eachL f [a, b] a.length, 0)
def notV (a : List Bool) : List Bool × Int := if 64 < a.length then ([], 2) else (nots a, 0)
theorem eachL_not (a : List Bool) : eachL fNot [a] a.length = nots a := by
  apply List.ext_getElem
  · simp [eachL, nots]
  · intro i h1 h2
    have hi : i < a.length := by simpa [nots] using h2
    simp [eachL, nots, fNot, colAt, hi]
theorem bothV_many (f : List Bool → Bool) (a b : List Bool) (h : 64 < a.length ∨ 64 < b.length) : bothV f a b = ([], 2) := by unfold bothV; rw [if_pos h]
theorem bothV_form (f : List Bool → Bool) (a b : List Bool) (h1 : a.length ≤ 64) (h2 : b.length ≤ 64) (h : a.length ≠ b.length) : bothV f a b = ([], 1) := by
  unfold bothV; rw [if_neg (by omega), if_pos h]
theorem bothV_ok (f : List Bool → Bool) (a b : List Bool) (h1 : a.length ≤ 64) (h : b.length = a.length) : bothV f a b = (eachL f [a, b] a.length, 0) := by
  unfold bothV; rw [if_neg (by omega), if_neg (by omega)]
/-- a list of marks in new memory, and an error -/
def Out (v : List Bool × Int) (w : World) (e : Ending) (w' : World) : Prop := ∃ B c, e = .returned (.tuple #[.slice B v.1.length c, .int .i64 v.2]) ∧ Rd w' B (bls v.1) ∧ Ext w w'
theorem rd_nil (w : World) : Rd w none (bls []) := fun h => by simp [bls] at h
theorem up_lt2 (s : List UInt8) (many : Int) : ∀ x ∈ Bits.up s many 1, x < 2 := by
  by_cases h : Bits.chk s many 1 = 0
  · rw [Bits.up_ok _ _ _ h]; intro x hx
    have := Bits.unp_lt s many.toNat (1 : Int).toNat x hx
    simpa using this
  · rw [Bits.up_bad _ _ _ h]; intro x hx; cases hx
theorem ones_marks (l : List Nat) (h : ∀ x ∈ l, x < 2) : ones (marks l) = l := by
  unfold ones marks
  rw [List.map_map]
  conv => rhs; rw [← List.map_id l]
  refine List.map_congr_left fun x hx => ?_
  have := h x hx
  rcases (show x = 0 ∨ x = 1 by omega) with rfl | rfl <;> rfl
theorem marks_ones (l : List Bool) : marks (ones l) = l := by
  unfold ones marks
  rw [List.map_map]
  conv => rhs; rw [← List.map_id l]
  refine List.map_congr_left fun x hx => ?_
  cases x <;> rfl
end Hy.Mrk
namespace Go.Proofs.YtikdmnedbfpkeaaDoor
open Go.RowKit Hy
theorem and_all (a b : List Bool) (A B : Option Addr) (n m ca cb : Nat) (w : World) (hn : a.length = n) (hm : b.length = m) (ra : Rd w A (bls a)) (rb : Rd w B (bls b)) :
    Calls Tryd.prog 19 #[.slice A n ca, .slice B m cb] w (Mrk.Out (Mrk.bothV fAnd a b) w) := by
  subst hn hm
  by_cases h1 : 64 < a.length ∨ 64 < b.length
  · rw [Mrk.bothV_many _ a b h1]
    refine Calls.mono (and_many A B a.length b.length ca cb w h1) ?_
    rintro e w' ⟨rfl, hx⟩
    exact ⟨none, 0, rfl, Mrk.rd_nil _, hx⟩
  · by_cases h2 : a.length = b.length
    · rw [Mrk.bothV_ok _ a b (by omega) h2.symm]
      rw [← h2]
      refine Calls.mono (and_ok a b A B a.length ca cb w rfl h2.symm ra rb (by omega)) ?_
      rintro e w' ⟨C, c, rfl, hr, hx⟩
      exact ⟨C, c, by simp [Mrk.eachL], hr, hx⟩
    · rw [Mrk.bothV_form _ a b (by omega) (by omega) h2]
      refine Calls.mono (and_form A B a.length b.length ca cb w (by omega) (by omega) h2) ?_
      rintro e w' ⟨rfl, hx⟩
      exact ⟨none, 0, rfl, Mrk.rd_nil _, hx⟩
theorem marksOf_andall (a b : List Bool) (A B : Option Addr) (n m ca cb : Nat) (w : World) (hn : a.length = n) (hm : b.length = m) (ra : Rd w A (bls a)) (rb : Rd w B (bls b)) :
    Calls Tryd.prog 22 #[.slice A n ca, .slice B m cb, .bool false] w (Mrk.Out (Mrk.bothV fAnd a b) w) := by
  subst hn hm
  by_cases h1 : 64 < a.length ∨ 64 < b.length
  · rw [Mrk.bothV_many _ a b h1]
    refine Calls.mono (marksOf_many A B a.length b.length ca cb _ w h1) ?_
    rintro e w' ⟨rfl, rfl⟩
    exact ⟨none, 0, rfl, Mrk.rd_nil _, ext_refl _⟩
  · by_cases h2 : a.length = b.length
    · rw [Mrk.bothV_ok _ a b (by omega) h2.symm]
      rw [← h2]
      refine Calls.mono (marksOf_and a b A B a.length ca cb w rfl h2.symm ra rb (by omega)) ?_
      rintro e w' ⟨C, c, rfl, hr, hx⟩
      exact ⟨C, c, by simp [Mrk.eachL], hr, hx⟩
    · rw [Mrk.bothV_form _ a b (by omega) (by omega) h2]
      refine Calls.mono (marksOf_form A B a.length b.length ca cb _ w (by omega) (by omega) h2) ?_
      rintro e w' ⟨rfl, rfl⟩
      exact ⟨none, 0, rfl, Mrk.rd_nil _, ext_refl _⟩
theorem or_all (a b : List Bool) (A B : Option Addr) (n m ca cb : Nat) (w : World) (hn : a.length = n) (hm : b.length = m) (ra : Rd w A (bls a)) (rb : Rd w B (bls b)) :
    Calls Tryd.prog 20 #[.slice A n ca, .slice B m cb] w (Mrk.Out (Mrk.bothV fOr a b) w) := by
  subst hn hm
  by_cases h1 : 64 < a.length ∨ 64 < b.length
  · rw [Mrk.bothV_many _ a b h1]
    refine Calls.mono (or_many A B a.length b.length ca cb w h1) ?_
    rintro e w' ⟨rfl, hx⟩
    exact ⟨none, 0, rfl, Mrk.rd_nil _, hx⟩
  · by_cases h2 : a.length = b.length
    · rw [Mrk.bothV_ok _ a b (by omega) h2.symm]
      rw [← h2]
      refine Calls.mono (or_ok a b A B a.length ca cb w rfl h2.symm ra rb (by omega)) ?_
      rintro e w' ⟨C, c, rfl, hr, hx⟩
      exact ⟨C, c, by simp [Mrk.eachL], hr, hx⟩
    · rw [Mrk.bothV_form _ a b (by omega) (by omega) h2]
      refine Calls.mono (or_form A B a.length b.length ca cb w (by omega) (by omega) h2) ?_
      rintro e w' ⟨rfl, hx⟩
      exact ⟨none, 0, rfl, Mrk.rd_nil _, hx⟩
theorem marksOf_orall (a b : List Bool) (A B : Option Addr) (n m ca cb : Nat) (w : World) (hn : a.length = n) (hm : b.length = m) (ra : Rd w A (bls a)) (rb : Rd w B (bls b)) :
    Calls Tryd.prog 22 #[.slice A n ca, .slice B m cb, .bool true] w (Mrk.Out (Mrk.bothV fOr a b) w) := by
  subst hn hm
  by_cases h1 : 64 < a.length ∨ 64 < b.length
  · rw [Mrk.bothV_many _ a b h1]
    refine Calls.mono (marksOf_many A B a.length b.length ca cb _ w h1) ?_
    rintro e w' ⟨rfl, rfl⟩
    exact ⟨none, 0, rfl, Mrk.rd_nil _, ext_refl _⟩
  · by_cases h2 : a.length = b.length
    · rw [Mrk.bothV_ok _ a b (by omega) h2.symm]
      rw [← h2]
      refine Calls.mono (marksOf_or a b A B a.length ca cb w rfl h2.symm ra rb (by omega)) ?_
      rintro e w' ⟨C, c, rfl, hr, hx⟩
      exact ⟨C, c, by simp [Mrk.eachL], hr, hx⟩
    · rw [Mrk.bothV_form _ a b (by omega) (by omega) h2]
      refine Calls.mono (marksOf_form A B a.length b.length ca cb _ w (by omega) (by omega) h2) ?_
      rintro e w' ⟨rfl, rfl⟩
      exact ⟨none, 0, rfl, Mrk.rd_nil _, ext_refl _⟩
theorem not_many (A : Option Addr) (n ca : Nat) (w : World) (h : 64 < n) :
    Calls Tryd.prog 21 #[.slice A n ca] w fun e w' => e = .returned (.tuple #[.slice none 0 0, .int .i64 2]) ∧ Ext w w' := by
  have HE := hid (each_many (.func (.func 38) #[] #[]) _ 1 _ 0 1 0 _ (by omega) (by omega) (heads1 A n ca w 22) (fun k hk => absurd hk (Nat.not_lt_zero _)) h)
  clear h
  go_enter Tryd.func21, Tryd.ntmps21
  go_wp2_with fail
  refine Calls.mono HE.out ?_
  rintro e _ ⟨rfl, rfl⟩
  go_wp2
  go_returns
  exact ⟨rfl, (ext_refl w).new _⟩
theorem not_all (a : List Bool) (A : Option Addr) (n ca : Nat) (w : World) (hn : a.length = n) (ra : Rd w A (bls a)) :
    Calls Tryd.prog 21 #[.slice A n ca] w (Mrk.Out (Mrk.notV a) w) := by
  subst hn
  by_cases h1 : 64 < a.length
  · rw [show Mrk.notV a = ([], 2) by unfold Mrk.notV; rw [if_pos h1]]
    refine Calls.mono (not_many A a.length ca w h1) ?_
    rintro e w' ⟨rfl, hx⟩
    exact ⟨none, 0, rfl, Mrk.rd_nil _, hx⟩
  · rw [show Mrk.notV a = (Mrk.nots a, 0) by unfold Mrk.notV; rw [if_neg h1]]
    refine Calls.mono (not_ok a A a.length ca w rfl ra (by omega)) ?_
    rintro e w' ⟨C, c, rfl, hr, hx⟩
    rw [Mrk.eachL_not] at hr
    exact ⟨C, c, by rw [Mrk.nots_len], hr, hx⟩
theorem notOf_all (a : List Bool) (A : Option Addr) (n ca : Nat) (w : World) (hn : a.length = n) (ra : Rd w A (bls a)) (hnl : n ≤ 140737488355328) :
    Calls Tryd.prog 23 #[.slice A n ca] w (Mrk.Out (Mrk.notV a) w) := by
  subst hn
  refine Calls.mono (notOf_any a A a.length ca w rfl ra hnl) ?_
  rintro e w' (⟨h, rfl, hx⟩ | ⟨h, C, c, rfl, hr, hx⟩)
  · rw [show Mrk.notV a = ([], 2) by unfold Mrk.notV; rw [if_pos h]]
    exact ⟨none, 0, rfl, Mrk.rd_nil _, hx⟩
  · rw [show Mrk.notV a = (Mrk.nots a, 0) by unfold Mrk.notV; rw [if_neg (by omega)]]
    exact ⟨C, c, by rw [Mrk.nots_len], hr, hx⟩
theorem of_all (s : ByteArray) (many : Int) (w : World) :
    Calls Tryd.prog 17 #[.string s, .int .i64 many] w (Mrk.Out (Mrk.marks (Bits.up s.data.toList many 1), Bits.chk s.data.toList many 1) w) := by
  refine Calls.mono (of_any s many w) ?_
  rintro e w' ⟨C, c, rfl, hr, hx⟩
  exact ⟨C, c, by rw [Mrk.marks_len], hr, hx⟩
end Go.Proofs.YtikdmnedbfpkeaaDoor
