/- Patch: plain words and laws: base, what is more, cost. No program in sight. -/
import Derived.Test.YtdblegdbfdhepaaVap
import Derived.Test.YtdblegdbfdhepaaBpk
namespace Hy.Pat
open Go
/-- the least number -/
def bas (l : List Nat) : Nat := match l with
  | [] => 0
  | x :: r => r.foldl min x
theorem bas_snoc (l : List Nat) (y : Nat) (h : l ≠ []) : bas (l ++ [y]) = min (bas l) y := by
  cases l with
  | nil => exact absurd rfl h
  | cons x r => simp [bas]
theorem foldl_min_le (r : List Nat) : ∀ x : Nat, r.foldl min x ≤ x ∧ ∀ y ∈ r, r.foldl min x ≤ y := by
  induction r with
  | nil => intro x; exact ⟨Nat.le_refl _, fun y hy => by cases hy⟩
  | cons z r ih =>
    intro x
    obtain ⟨h1, h2⟩ := ih (min x z)
    refine ⟨Nat.le_trans h1 (Nat.min_le_left _ _), fun y hy => ?_⟩
    rcases List.mem_cons.1 hy with rfl | hy
    · exact Nat.le_trans h1 (Nat.min_le_right _ _)
    · exact h2 y hy
theorem bas_le (l : List Nat) : ∀ x ∈ l, bas l ≤ x := by
  cases l with
  | nil => intro x hx; cases hx
  | cons a r =>
    intro x hx
    rcases List.mem_cons.1 hx with rfl | hx
    · exact (foldl_min_le r _).1
    · exact (foldl_min_le r a).2 x hx
theorem bas_lt (l : List Nat) (hl : ∀ x ∈ l, x < 18446744073709551616) : bas l < 18446744073709551616 := by
  cases l with
  | nil => decide
  | cons a r => exact Nat.lt_of_le_of_lt (foldl_min_le r a).1 (hl a (by simp))
/-- what each number is more -/
def mor (l : List Nat) : List Nat := l.map (· - bas l)
theorem mor_len (l : List Nat) : (mor l).length = l.length := by simp [mor]
theorem mor_lt (l : List Nat) (hl : ∀ x ∈ l, x < 18446744073709551616) : ∀ x ∈ mor l, x < 18446744073709551616 := fun x hx => by
  obtain ⟨y, hy, rfl⟩ := List.mem_map.1 hx
  have := hl y hy
  show y - bas l < _
  omega
/-- what numbers that stand out cost -/
def one (w x : Nat) : Nat := if w < Lib.bitLen x then 1 + (Vary.wr x).length else 0
def xt (w : Nat) (l : List Nat) : Nat := (l.map (one w)).sum
theorem xt_snoc (w : Nat) (l : List Nat) (x : Nat) : xt w (l ++ [x]) = xt w l + one w x := by simp [xt]
theorem one_le (w x : Nat) : one w x ≤ 10 := by
  unfold one; split
  · rw [Vary.wr_len]; have := Vary.beh_le8 x; omega
  · omega
theorem xt_le (w : Nat) (l : List Nat) : xt w l ≤ 10 * l.length := by
  induction l with
  | nil => exact Nat.le_refl _
  | cons x l ih =>
    have := one_le w x
    unfold xt at *
    rw [List.map_cons, List.sum_cons, List.length_cons]; omega
def cst (l : List Nat) (w : Nat) : Nat := Bits.size l.length w + xt w l
end Hy.Pat
