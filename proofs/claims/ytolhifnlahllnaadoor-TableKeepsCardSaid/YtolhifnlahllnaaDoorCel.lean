/- Cells of columns: plain words and laws. No program in sight. -/
import Derived.Test.YtolhifnlahllnaaDoorNum
import Derived.Lib.Bytealg
import Derived.Lib.Small
namespace Hy
/-- a cell: its kind, its number, its text -/
abbrev Cel := Int × Nat × ByteArray
namespace Cel
def bl (s : ByteArray) : List Nat := s.data.toList.map UInt8.toNat
theorem bl_len (s : ByteArray) : (bl s).length = s.size := by rw [bl, List.length_map, Array.length_toList]; rfl
theorem bl_inj {s t : ByteArray} (h : bl s = bl t) : s = t := by
  apply ByteArray.ext; apply Array.ext'
  exact (List.map_inj_right (fun a b h => UInt8.toNat.inj h)).1 h
def tless (s t : ByteArray) : Bool := numsLess (bl s) (bl t)
/-- is a less than b? What is not there is less than what is. -/
@[irreducible] def less (a b : Cel) : Bool :=
  if a.1 = 0 ∧ b.1 ≠ 0 then true else if b.1 = 0 ∧ a.1 ≠ 0 then false else if a.1 ≠ b.1 then decide (a.1 < b.1) else if a.2.1 ≠ b.2.1 then decide (a.2.1 < b.2.1) else tless a.2.2 b.2.2
theorem cmpB (a b : List UInt8) : (Go.Lib.compareBytes a b < 0) = (numsLess (a.map UInt8.toNat) (b.map UInt8.toNat) = true) := by
  induction a generalizing b with
  | nil => cases b <;> simp [Go.Lib.compareBytes, numsLess]
  | cons x a ih =>
    cases b with
    | nil => simp [Go.Lib.compareBytes, numsLess]
    | cons y b =>
      have e1 : (x < y) = (x.toNat < y.toNat) := by rw [UInt8.lt_iff_toNat_lt]
      have e2 : (y < x) = (y.toNat < x.toNat) := by rw [UInt8.lt_iff_toNat_lt]
      simp only [Go.Lib.compareBytes, e1, e2, List.map_cons, numsLess]
      by_cases h1 : x.toNat < y.toNat
      · simp [h1]
      · by_cases h2 : y.toNat < x.toNat
        · have : x.toNat ≠ y.toNat := by omega
          simp [h1, h2, this]
        · have : x.toNat = y.toNat := by omega
          simp [this, ih]
theorem cmpB_bd (a b : List UInt8) : -1 ≤ Go.Lib.compareBytes a b ∧ Go.Lib.compareBytes a b ≤ 1 := by
  induction a generalizing b with
  | nil => cases b <;> simp [Go.Lib.compareBytes]
  | cons x a ih =>
    cases b with
    | nil => simp [Go.Lib.compareBytes]
    | cons y b =>
      simp only [Go.Lib.compareBytes]
      split
      · simp
      · split
        · simp
        · exact ih b
def or3 (x y z : Int) : Int := if x ≠ 0 then x else if y ≠ 0 then y else z
/-- Order: of two cells -/
def ord (a b : Cel) : Int := if decide (a.1 ≠ 0) ≠ decide (b.1 ≠ 0) then (if a.1 ≠ 0 then 1 else -1) else or3 (Go.Lib.compareInt a.1 b.1) (Go.Lib.compareInt (a.2.1 : Nat) (b.2.1 : Nat)) (Go.Lib.compareBytes a.2.2.data.toList b.2.2.data.toList)
theorem ord_less (a b : Cel) : decide (ord a b < 0) = less a b := by
  obtain ⟨k, n, s⟩ := a
  obtain ⟨k', n', s'⟩ := b
  unfold less ord or3 tless bl Go.Lib.compareInt
  have hB := cmpB s.data.toList s'.data.toList
  by_cases h0 : k = 0 <;> by_cases h1 : k' = 0 <;> simp only [h0, h1, ne_eq, not_true_eq_false, not_false_eq_true, and_true, and_false, if_true, if_false, decide_true, decide_false, Bool.true_eq_false, Bool.false_eq_true] <;> first | rfl | skip
  · by_cases h2 : n < n'
    · simp [h2, show ¬ n = n' by omega]
    · by_cases h3 : n' < n
      · have : ¬ n = n' := by omega
        have h4 : ¬ n < n' := by omega
        simp [h3, this, h4]
      · have : n = n' := by omega
        subst this
        simp [hB]
  · by_cases hk : k < k'
    · simp [hk, show ¬ k = k' by omega]
    · by_cases hk2 : k' < k
      · have : ¬ k = k' := by omega
        simp [hk, hk2, this]
      · have : k = k' := by omega
        subst this
        by_cases h2 : n < n'
        · simp [h2, show ¬ n = n' by omega]
        · by_cases h3 : n' < n
          · have : ¬ n = n' := by omega
            have h4 : ¬ n < n' := by omega
            simp [h3, this, h4]
          · have : n = n' := by omega
            subst this
            simp [hB]
/-! the order -/
theorem numsLess_irrefl (a : List Nat) : numsLess a a = false := by
  induction a with
  | nil => rfl
  | cons x a ih => simp [numsLess, ih]
theorem numsLess_trans : ∀ (a b c : List Nat), numsLess a b = true → numsLess b c = true → numsLess a c = true
  | _, _, [], _, h => by cases h' : (‹List Nat› : List Nat) <;> simp_all [numsLess]
  | [], _, _ :: _, _, _ => rfl
  | a :: x, [], _ :: _, h, _ => by simp [numsLess] at h
  | a :: x, b :: y, c :: z, h1, h2 => by
    simp only [numsLess, Bool.or_eq_true, Bool.and_eq_true, decide_eq_true_eq] at h1 h2 ⊢
    rcases h1 with h1 | ⟨h1, h1'⟩
    · rcases h2 with h2 | ⟨h2, _⟩ <;> (left; omega)
    · rcases h2 with h2 | ⟨h2, h2'⟩
      · left; omega
      · right; exact ⟨by omega, numsLess_trans x y z h1' h2'⟩
theorem numsLess_total : ∀ (a b : List Nat), a ≠ b → numsLess a b = true ∨ numsLess b a = true
  | [], [], h => absurd rfl h
  | [], _ :: _, _ => .inl rfl
  | _ :: _, [], _ => .inr rfl
  | a :: x, b :: y, h => by
    simp only [numsLess, Bool.or_eq_true, Bool.and_eq_true, decide_eq_true_eq]
    by_cases e : a = b
    · subst e
      have : x ≠ y := fun h' => h (by rw [h'])
      rcases numsLess_total x y this with h' | h'
      · left; right; exact ⟨rfl, h'⟩
      · right; right; exact ⟨rfl, h'⟩
    · rcases Nat.lt_or_ge a b with h' | h'
      · left; left; exact h'
      · right; left; omega
theorem less_irrefl (a : Cel) : less a a = false := by
  unfold less tless
  rw [if_neg (by rintro ⟨h, h'⟩; exact h' h), if_neg (by rintro ⟨h, h'⟩; exact h' h), if_neg (by simp), if_neg (by simp), numsLess_irrefl]
theorem less_total (a b : Cel) (h : a ≠ b) : less a b = true ∨ less b a = true := by
  obtain ⟨k, n, s⟩ := a
  obtain ⟨k', n', s'⟩ := b
  unfold less tless
  have hT : n = n' → k = k' → tless s s' = true ∨ tless s' s = true := fun e1 e2 => numsLess_total _ _ fun e => h (by rw [bl_inj e, e1, e2])
  unfold tless at hT
  simp only
  by_cases h0 : k = 0 ∧ k' ≠ 0
  · rw [if_pos h0]; exact .inl rfl
  · by_cases h1 : k' = 0 ∧ k ≠ 0
    · right; rw [if_pos h1]
    · rw [if_neg h0, if_neg h1, if_neg h1, if_neg h0]
      by_cases hk : k = k'
      · rw [if_neg (show ¬ k ≠ k' from fun h => h hk), if_neg (show ¬ k' ≠ k from fun h => h hk.symm)]
        by_cases hn : n = n'
        · rw [if_neg (show ¬ n ≠ n' from fun h => h hn), if_neg (show ¬ n' ≠ n from fun h => h hn.symm)]
          exact hT hn hk
        · rw [if_pos (show n ≠ n' from hn), if_pos (show n' ≠ n from fun h => hn h.symm), decide_eq_true_eq, decide_eq_true_eq]; omega
      · rw [if_pos (show k ≠ k' from hk), if_pos (show k' ≠ k from fun h => hk h.symm), decide_eq_true_eq, decide_eq_true_eq]; omega
theorem less_trans (a b c : Cel) (h1 : less a b = true) (h2 : less b c = true) : less a c = true := by
  obtain ⟨k, n, s⟩ := a
  obtain ⟨k', n', s'⟩ := b
  obtain ⟨k'', n'', s''⟩ := c
  unfold less tless at *
  have hT := numsLess_trans (bl s) (bl s') (bl s'')
  simp only at h1 h2 ⊢
  repeat' split at h1
  all_goals first | (cases h1; done) | skip
  all_goals repeat' split at h2
  all_goals first | (cases h2; done) | skip
  all_goals repeat' split
  all_goals first | rfl | (exact hT h1 h2) | (simp only [decide_eq_true_eq] at *; omega) | (exfalso; (try simp only [decide_eq_true_eq] at *); omega)
end Cel
end Hy
