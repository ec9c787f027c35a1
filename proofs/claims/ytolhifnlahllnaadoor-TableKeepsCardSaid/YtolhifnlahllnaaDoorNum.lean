/- lists of numbers: are they one, is one less: plain. -/
import Derived.Test.YtolhifnlahllnaaDoorBase
namespace Hy
def numsLess : List Nat → List Nat → Bool
  | _, [] => false
  | [], _ :: _ => true
  | a :: x, b :: y => decide (a < b) || (decide (a = b) && numsLess x y)
def sameNums (a b : List Nat) : Bool := decide (a = b)
theorem numsLess_step (a b : List Nat) (k : Nat) (h1 : k < a.length) (h2 : k < b.length) (ht : a.take k = b.take k) (e : a[k] = b[k]) : a.take (k + 1) = b.take (k + 1) := by
  rw [List.take_succ_eq_append_getElem h1, List.take_succ_eq_append_getElem h2, ht, e]
theorem numsLess_split : ∀ (k : Nat) (a b : List Nat), a.take k = b.take k → k ≤ a.length → k ≤ b.length → numsLess a b = numsLess (a.drop k) (b.drop k)
  | 0, a, b, _, _, _ => rfl
  | k + 1, [], b, _, h, _ => by simp at h
  | k + 1, a :: x, [], _, _, h => by simp at h
  | k + 1, a :: x, b :: y, ht, h1, h2 => by
    simp only [List.take_succ_cons, List.cons.injEq] at ht
    obtain ⟨rfl, ht⟩ := ht
    simp only [numsLess, Nat.lt_irrefl, decide_false, decide_true, Bool.true_and, Bool.false_or, List.drop_succ_cons]
    exact numsLess_split k x y ht (by simpa using h1) (by simpa using h2)
theorem numsLess_diff (a b : List Nat) (k : Nat) (h1 : k < a.length) (h2 : k < b.length) (ht : a.take k = b.take k) (e : a[k] ≠ b[k]) : numsLess a b = decide (a[k] < b[k]) := by
  rw [numsLess_split k a b ht (by omega) (by omega), List.drop_eq_getElem_cons h1, List.drop_eq_getElem_cons h2, numsLess]
  simp [e]
theorem numsLess_end (a b : List Nat) (ht : a.take (min a.length b.length) = b.take (min a.length b.length)) : numsLess a b = decide (a.length < b.length) := by
  rw [numsLess_split _ a b ht (Nat.min_le_left _ _) (Nat.min_le_right _ _)]
  rcases Nat.lt_or_ge a.length b.length with h | h
  · rw [Nat.min_eq_left (by omega), List.drop_length, List.drop_eq_getElem_cons h]; simp [numsLess, h]
  · rw [Nat.min_eq_right h, List.drop_length]
    have : ¬ a.length < b.length := by omega
    cases a.drop b.length <;> simp [numsLess, this]
end Hy
