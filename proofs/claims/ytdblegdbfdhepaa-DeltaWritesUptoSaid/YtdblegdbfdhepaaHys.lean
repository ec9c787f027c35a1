/- Hybrid: plain laws of reading, one step at a time. No program in sight. -/
import Derived.Test.YtdblegdbfdhepaaHyr
import Derived.Test.YtdblegdbfdhepaaBck
namespace Hy.Bits
theorem chk_size {s : List UInt8} {many w : Nat} (h1 : w ≤ 64) (h2 : many ≤ 64) (h3 : s.length = size many w) : chk s many w = 0 ∨ chk s many w = 1 := by
  by_cases h : le s < 2 ^ (many * w)
  · exact .inl (chk_of h1 h2 h3 h)
  · exact .inr (chk_rest h1 h2 h)
end Hy.Bits
namespace Hy.Hyb
open Go
/-- numbers that are packed next: they, what is wrong, what is left -/
@[irreducible] def nmb (w many : Nat) (s : List UInt8) : List Nat × Nat × List UInt8 :=
  if s.length < Bits.size many w then ([], 5, s) else (Bits.up (s.take (Bits.size many w)) many w, Bits.chk (s.take (Bits.size many w)) many w, s.drop (Bits.size many w))
theorem nmb_none {w many : Nat} {s : List UInt8} (h : s.length < Bits.size many w) : nmb w many s = ([], 5, s) := by unfold nmb; rw [if_pos h]
theorem nmb_some {w many : Nat} {s : List UInt8} (h : ¬ s.length < Bits.size many w) : nmb w many s = (Bits.up (s.take (Bits.size many w)) many w, Bits.chk (s.take (Bits.size many w)) many w, s.drop (Bits.size many w)) := by unfold nmb; rw [if_neg h]
theorem nmb_len {w many : Nat} {s : List UInt8} (h : (nmb w many s).2.1 = 0) : (nmb w many s).1.length = many := by
  by_cases h1 : s.length < Bits.size many w
  · rw [nmb_none h1] at h; cases h
  · rw [nmb_some h1] at h ⊢
    rw [Bits.up_ok _ _ _ h, Bits.unp_len]; simp
theorem nmb_lt {w many : Nat} {s : List UInt8} : ∀ n ∈ (nmb w many s).1, n < 2 ^ w := by
  by_cases h1 : s.length < Bits.size many w
  · rw [nmb_none h1]; simp
  · rw [nmb_some h1]
    by_cases h : Bits.chk (s.take (Bits.size many w)) many w = 0
    · rw [Bits.up_ok _ _ _ h]; simpa using Bits.unp_lt (s.take (Bits.size many w)) many w
    · rw [Bits.up_bad _ _ _ h]; simp
theorem nmb_rest {w many : Nat} {s : List UInt8} : (nmb w many s).2.2.length ≤ s.length := by
  unfold nmb; split
  · exact Nat.le_refl _
  · simp
theorem nmb_bad {w many : Nat} {s : List UInt8} (h : (nmb w many s).2.1 ≠ 0) : (nmb w many s).1 = [] := by
  by_cases h1 : s.length < Bits.size many w
  · rw [nmb_none h1]
  · rw [nmb_some h1] at h ⊢
    exact Bits.up_bad _ _ _ h
section
variable {w left : Nat} {s : List UInt8} {n k e : Nat}
theorem stp_bad (h : Vary.rd s = (n, k, e)) (he : e ≠ 0) : stp w left s = (e, [], 0) := by
  unfold stp; rw [h]; rw [if_pos he]
theorem stp_low (h : Vary.rd s = (n, k, 0)) (hn : n < 2) : stp w left s = (1, [], 0) := by
  unfold stp; rw [h]; rw [if_neg (by simp), if_pos hn]
theorem stp_over (h : Vary.rd s = (n, k, 0)) (h2 : 2 ≤ n) (hm : if n % 2 = 0 then left < n / 2 else (left + 7) / 8 < n / 2) : stp w left s = (2, [], 0) := by
  unfold stp; rw [h]; rw [if_neg (by simp), if_neg (by simp only; omega)]
  by_cases h0 : n % 2 = 0
  · rw [if_pos h0] at hm; rw [if_pos h0, if_pos hm]
  · rw [if_neg h0] at hm; rw [if_neg h0, if_pos hm]
/-- how many are packed next -/
def each (n : Nat) : Nat := if n % 2 = 0 then 1 else n / 2 * 8
theorem stp_wrong (h : Vary.rd s = (n, k, 0)) (h2 : 2 ≤ n) (hm : ¬ if n % 2 = 0 then left < n / 2 else (left + 7) / 8 < n / 2) (hw : w ≤ 64) (hl : left ≤ 64)
    (he : (nmb w (each n) (s.drop k)).2.1 ≠ 0) : stp w left s = ((nmb w (each n) (s.drop k)).2.1, [], 0) := by
  unfold stp; rw [h]; rw [if_neg (by simp), if_neg (by simp only; omega)]
  simp only
  by_cases h0 : n % 2 = 0
  · rw [if_pos h0] at hm ⊢
    rw [if_neg hm]
    have e1 : each n = 1 := by unfold each; rw [if_pos h0]
    rw [e1] at he ⊢
    by_cases hs : (s.drop k).length < Bits.size 1 w
    · rw [nmb_none hs, if_pos (by rw [List.length_drop] at hs; omega)]
    · rw [nmb_some hs] at he ⊢
      have hc := Bits.chk_size (s := (s.drop k).take (Bits.size 1 w)) hw (by omega : 1 ≤ 64) (by rw [List.length_take]; omega)
      rw [if_neg (by rw [List.length_drop] at hs; omega), if_pos (c := Bits.chk ((s.drop k).take (Bits.size 1 w)) 1 w ≠ 0) he]
      rcases hc with hc | hc
      · exact absurd hc he
      · simp only; rw [hc]
  · rw [if_neg h0] at hm ⊢
    rw [if_neg hm]
    have e1 : each n = n / 2 * 8 := by unfold each; rw [if_neg h0]
    rw [e1] at he ⊢
    by_cases hs : (s.drop k).length < Bits.size (n / 2 * 8) w
    · rw [nmb_none hs, if_pos (by rw [List.length_drop] at hs; omega)]
    · rw [nmb_some hs] at he ⊢
      have hc := Bits.chk_size (s := (s.drop k).take (Bits.size (n / 2 * 8) w)) hw (by omega : n / 2 * 8 ≤ 64) (by rw [List.length_take]; omega)
      rw [if_neg (by rw [List.length_drop] at hs; omega), if_pos (c := Bits.chk ((s.drop k).take (Bits.size (n / 2 * 8) w)) (n / 2 * 8 : Nat) w ≠ 0) he]
      rcases hc with hc | hc
      · exact absurd hc he
      · simp only; rw [hc]
theorem stp_row (h : Vary.rd s = (n, k, 0)) (h2 : 2 ≤ n) (h0 : n % 2 = 0) (hm : ¬ left < n / 2) (he : (nmb w 1 (s.drop k)).2.1 = 0) :
    ∃ x, (nmb w 1 (s.drop k)).1 = [x] ∧ stp w left s = (0, List.replicate (n / 2) x, k + Bits.size 1 w) ∧ (nmb w 1 (s.drop k)).2.2 = s.drop (k + Bits.size 1 w) := by
  have hs : ¬ (s.drop k).length < Bits.size 1 w := fun hs => by rw [nmb_none hs] at he; cases he
  rw [nmb_some hs] at he ⊢
  refine ⟨Bits.le ((s.drop k).take (Bits.size 1 w)) % 2 ^ w, ?_, ?_, by rw [List.drop_drop]⟩
  · show Bits.up _ ((1 : Nat) : Int) _ = _
    rw [Bits.up_ok _ _ _ he, Bits.unp_eq]; simp
  · unfold stp; rw [h]; rw [if_neg (by simp), if_neg (by simp only; omega)]
    simp only
    rw [if_pos h0, if_neg hm, if_neg (by rw [List.length_drop] at hs; omega), if_neg (fun hc => hc he)]
theorem stp_blocks (h : Vary.rd s = (n, k, 0)) (h2 : 2 ≤ n) (h0 : n % 2 = 1) (hm : ¬ (left + 7) / 8 < n / 2) (he : (nmb w (n / 2 * 8) (s.drop k)).2.1 = 0) :
    stp w left s = (if ((nmb w (n / 2 * 8) (s.drop k)).1.drop left).all (· == 0) = true then (0, (nmb w (n / 2 * 8) (s.drop k)).1.take left, k + Bits.size (n / 2 * 8) w) else (1, [], 0)) ∧ (nmb w (n / 2 * 8) (s.drop k)).2.2 = s.drop (k + Bits.size (n / 2 * 8) w) := by
  have hs : ¬ (s.drop k).length < Bits.size (n / 2 * 8) w := fun hs => by rw [nmb_none hs] at he; cases he
  rw [nmb_some hs] at he ⊢
  refine ⟨?_, by rw [List.drop_drop]⟩
  simp only
  rw [Bits.up_ok _ _ _ he, Int.toNat_natCast, Int.toNat_natCast]
  unfold stp; rw [h]; rw [if_neg (by simp), if_neg (by simp only; omega)]
  simp only
  rw [if_neg (by omega : ¬ n % 2 = 0), if_neg hm, if_neg (by rw [List.length_drop] at hs; omega), if_neg (fun hc => hc he)]
end
/-- Read a text -/
@[irreducible] def rdl (s : List UInt8) (many w : Int) : List Nat × Nat :=
  if (w < 0 ∨ 64 < w) ∨ many < 0 then ([], 3) else if 64 < many then ([], 2) else rdF w.toNat many.toNat many.toNat s []
theorem rdl_range {s : List UInt8} {many w : Int} (h : (w < 0 ∨ 64 < w) ∨ many < 0) : rdl s many w = ([], 3) := by unfold rdl; rw [if_pos h]
theorem rdl_many {s : List UInt8} {many w : Int} (h : ¬ ((w < 0 ∨ 64 < w) ∨ many < 0)) (h2 : 64 < many) : rdl s many w = ([], 2) := by unfold rdl; rw [if_neg h, if_pos h2]
theorem rdl_in {s : List UInt8} {many w : Nat} (h : w ≤ 64) (h2 : many ≤ 64) : rdl s many w = rdF w many many s [] := by
  unfold rdl; rw [if_neg (by omega), if_neg (by omega), Int.toNat_natCast, Int.toNat_natCast]
/-- a step takes at least one number, and not more than are wanted -/
theorem stp_len {w left : Nat} {s : List UInt8} (h : (stp w left s).1 = 0) (hl : 1 ≤ left) : 1 ≤ (stp w left s).2.1.length ∧ (stp w left s).2.1.length ≤ left := by
  unfold stp at h ⊢
  generalize Vary.rd s = r at *
  obtain ⟨n, k, e⟩ := r
  simp only at h ⊢
  split at h
  · rename_i h1; exact absurd h h1
  · rename_i h1
    rw [if_neg h1]
    split at h
    · cases h
    · rename_i h2
      rw [if_neg h2]
      split at h
      · rename_i h0
        rw [if_pos h0]
        split at h
        · cases h
        · rename_i h3
          rw [if_neg h3]
          split at h
          · cases h
          · rename_i h4
            rw [if_neg h4]
            split at h
            · cases h
            · rename_i h5
              rw [if_neg h5]
              simp only [List.length_replicate]; omega
      · rename_i h0
        rw [if_neg h0]
        split at h
        · cases h
        · rename_i h3
          rw [if_neg h3]
          split at h
          · cases h
          · rename_i h4
            rw [if_neg h4]
            split at h
            · cases h
            · rename_i h5
              rw [if_neg h5]
              split at h
              · rename_i h6
                rw [if_pos h6]
                simp only [List.length_take, Bits.unp_len]; omega
              · cases h
end Hy.Hyb
