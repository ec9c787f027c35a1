/- Bits: Pack's answers, and what is packed read again: plain. -/
import Derived.Test.YtdblegdbfdhepaaBip
namespace Hy.Bits
open Go
theorem pk_ok {l : List Nat} {w : Int} (h : (pk l w).2 = 0) (hl : ∀ n ∈ l, n < 2 ^ 64) : 0 ≤ w ∧ w ≤ 64 ∧ l.length ≤ 64 ∧ (∀ n ∈ l, n < 2 ^ w.toNat) ∧ pk l w = (packed l w.toNat, 0) := by
  unfold pk at h ⊢
  split at h
  · cases h
  · rename_i h1
    split at h
    · cases h
    · rename_i h2
      split at h
      · cases h
      · rename_i h3
        rw [if_neg h1, if_neg h2, if_neg h3]
        have h4 : 0 ≤ w ∧ w ≤ 64 := Decidable.not_not.1 h1
        exact ⟨h4.1, h4.2, by omega, (width_le_iff l w.toNat hl (by omega)).1 (by omega), rfl⟩
theorem pk_bad {l : List Nat} {w : Int} (h : (pk l w).2 ≠ 0) : (pk l w).1 = [] := by
  unfold pk at h ⊢
  split at h
  · rename_i h1; rw [if_pos h1]
  · rename_i h1
    split at h
    · rename_i h2; rw [if_neg h1, if_pos h2]
    · rename_i h2
      split at h
      · rename_i h3; rw [if_neg h1, if_neg h2, if_pos h3]
      · exact absurd rfl h
theorem pk_of {l : List Nat} {w : Nat} (h1 : w ≤ 64) (h2 : l.length ≤ 64) (h3 : ∀ n ∈ l, n < 2 ^ w) : pk l w = (packed l w, 0) := by
  have h64 : 2 ^ w ≤ 2 ^ 64 := Nat.pow_le_pow_right (by decide) h1
  have h4 := (width_le_iff l w (fun n hn => Nat.lt_of_lt_of_le (h3 n hn) h64) h1).2 h3
  unfold pk
  rw [if_neg (fun h => h ⟨by omega, by omega⟩), if_neg (by omega), if_neg (by omega), Int.toNat_natCast]
theorem chk_packed {l : List Nat} {w : Nat} (h1 : w ≤ 64) (h2 : l.length ≤ 64) (h3 : ∀ n ∈ l, n < 2 ^ w) : chk (packed l w) l.length w = 0 :=
  chk_of h1 h2 (packed_len l w) (by rw [le_packed l w h3]; exact num_lt w l h3)
theorem up_packed {l : List Nat} {w : Nat} (h1 : w ≤ 64) (h2 : l.length ≤ 64) (h3 : ∀ n ∈ l, n < 2 ^ w) : up (packed l w) l.length w = l := by
  rw [up_ok _ _ _ (chk_packed h1 h2 h3), Int.toNat_natCast, Int.toNat_natCast, unp_packed l w h3]
end Hy.Bits
