/- Patch: plain laws: the best width is the least of the best ones; what stands out, and what stays in. No program in sight. -/
import Derived.Test.YtdblegdbfdhepaaPad
namespace Hy.Pat
open Go
/-- the least of the best ones -/
theorem bst_first (M : List Nat) (k : Nat) : ∀ w, w < bst M k → cst M (bst M k) < cst M w := by
  induction k with
  | zero => intro w hw; exact absurd hw (by simp [bst])
  | succ k ih =>
    intro w hw
    unfold bst at hw ⊢
    split at hw
    · rename_i h
      rw [if_pos h]
      exact Nat.lt_of_lt_of_le h (bst_least M k w (by omega))
    · rename_i h
      rw [if_neg h]
      exact ih w hw
theorem bst_of {M : List Nat} {k w : Nat} (hk : w ≤ k) (h1 : ∀ v, v ≤ k → cst M w ≤ cst M v) (h2 : ∀ v, v < w → cst M w < cst M v) : bst M k = w := by
  have h3 := bst_least M k w hk
  have h4 := h1 (bst M k) (bst_le M k)
  rcases Nat.lt_trichotomy (bst M k) w with h | h | h
  · have := h2 _ h; omega
  · exact h
  · have := bst_first M k w h; omega
/-- what stays in: noughts where a number stands out -/
def inn (w : Nat) (M : List Nat) : List Nat := M.map fun x => if w < Lib.bitLen x then 0 else x
theorem inn_len (w : Nat) (M : List Nat) : (inn w M).length = M.length := by simp [inn]
theorem inn_lt (w : Nat) (M : List Nat) (hw : w ≤ 64) (hl : ∀ x ∈ M, x < 2 ^ 64) : ∀ x ∈ inn w M, x < 2 ^ w := fun x hx => by
  obtain ⟨y, hy, rfl⟩ := List.mem_map.1 hx
  split
  · exact Nat.two_pow_pos w
  · rename_i h
    exact (Bits.bitLen_le_iff y w (hl y hy) hw).1 (by omega)
/-- the tail: places and numbers of those that stand out, from a place on -/
def tl (w : Nat) : Nat → List Nat → List UInt8
  | _, [] => []
  | i, x :: M => if w < Lib.bitLen x then UInt8.ofNat i :: Vary.wr x ++ tl w (i + 1) M else tl w (i + 1) M
def cnt (w : Nat) (M : List Nat) : Nat := (M.map fun x => if w < Lib.bitLen x then 1 else 0).sum
theorem tl_snoc (w : Nat) : ∀ (M : List Nat) (i x : Nat), tl w i (M ++ [x]) = tl w i M ++ (if w < Lib.bitLen x then UInt8.ofNat (i + M.length) :: Vary.wr x else [])
  | [], i, x => by simp only [List.nil_append, tl, List.length_nil, Nat.add_zero]; split <;> simp
  | y :: M, i, x => by
    rw [List.cons_append, tl, tl, tl_snoc w M (i + 1) x, List.length_cons, show i + 1 + M.length = i + (M.length + 1) by omega]
    split <;> simp
theorem cnt_snoc (w : Nat) (M : List Nat) (x : Nat) : cnt w (M ++ [x]) = cnt w M + (if w < Lib.bitLen x then 1 else 0) := by simp [cnt]
theorem cnt_le (w : Nat) (M : List Nat) : cnt w M ≤ M.length := by
  induction M with
  | nil => exact Nat.le_refl _
  | cons x M ih =>
    unfold cnt at *
    rw [List.map_cons, List.sum_cons, List.length_cons]
    split <;> omega
theorem tl_len (w : Nat) : ∀ (M : List Nat) (i : Nat), (tl w i M).length = xt w M
  | [], _ => rfl
  | x :: M, i => by
    have ih := tl_len w M (i + 1)
    show (if w < Lib.bitLen x then UInt8.ofNat i :: Vary.wr x ++ tl w (i + 1) M else tl w (i + 1) M).length = one w x + xt w M
    unfold one
    split
    · rw [List.length_append, List.length_cons, ih]; omega
    · rw [ih]; omega
/-- a list's bytes -/
@[irreducible] def bys (l : List Nat) : List UInt8 :=
  Vary.wr (bas l) ++ [UInt8.ofNat (bst (mor l) 64), UInt8.ofNat (cnt (bst (mor l) 64) (mor l))] ++ Bits.packed (inn (bst (mor l) 64) (mor l)) (bst (mor l) 64) ++ tl (bst (mor l) 64) 0 (mor l)
theorem bys_eq (l : List Nat) : bys l = Vary.wr (bas l) ++ [UInt8.ofNat (bst (mor l) 64), UInt8.ofNat (cnt (bst (mor l) 64) (mor l))] ++ Bits.packed (inn (bst (mor l) 64) (mor l)) (bst (mor l) 64) ++ tl (bst (mor l) 64) 0 (mor l) := by unfold bys; rfl
/-- behind base and head there are as many bytes as the least cost -/
theorem bys_len (l : List Nat) : (bys l).length = (Vary.wr (bas l)).length + 2 + cst (mor l) (bst (mor l) 64) := by
  rw [bys_eq]
  simp only [List.length_append, List.length_cons, List.length_nil, Bits.packed_len, inn_len, tl_len]
  unfold cst; omega
end Hy.Pat
