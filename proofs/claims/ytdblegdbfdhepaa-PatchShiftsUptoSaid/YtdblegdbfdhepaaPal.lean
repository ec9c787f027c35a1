/- Patch: plain words of reading: the frame, the list. No program in sight. -/
import Derived.Test.YtdblegdbfdhepaaPai
import Derived.Test.YtdblegdbfdhepaaBip
import Derived.Test.YtdblegdbfdhepaaVap
namespace Hy.Vary
theorem rd_bd (s : List UInt8) : (rd s).2.1 ≤ s.length ∧ (rd s).1 < 18446744073709551616 ∧ (rd s).2.2 ≤ 5 := by
  rcases rd_cases s with e | e | ⟨n, k, e, _, hk, hn, _⟩
  · rw [e]; exact ⟨Nat.zero_le _, by decide, by decide⟩
  · rw [e]; exact ⟨Nat.zero_le _, by decide, by decide⟩
  · rw [e]; exact ⟨hk, hn, by simp⟩
end Hy.Vary
namespace Hy.Pat
open Go
/-- behind what is packed: those that stand out, and nothing more: what is wrong, base, numbers -/
@[irreducible] def fr3 (b w q : Nat) (M : List Nat) (u : List UInt8) : Nat × Nat × List Nat :=
  if (onS w q M (-1) u).1 ≠ 0 then ((onS w q M (-1) u).1, 0, []) else if (onS w q M (-1) u).2.2 ≠ [] then (1, 0, []) else (0, b, (onS w q M (-1) u).2.1)
@[irreducible] def fr2 (b many : Nat) (c d : UInt8) (u : List UInt8) : Nat × Nat × List Nat :=
  if 64 < c.toNat then (3, 0, []) else if u.length < Bits.size many c.toNat then (5, 0, [])
  else if Bits.chk (u.take (Bits.size many c.toNat)) many c.toNat ≠ 0 then (Bits.chk (u.take (Bits.size many c.toNat)) many c.toNat, 0, [])
  else fr3 b c.toNat d.toNat (Bits.unp (u.take (Bits.size many c.toNat)) many c.toNat) (u.drop (Bits.size many c.toNat))
@[irreducible] def fr1 (b many : Nat) (t : List UInt8) : Nat × Nat × List Nat := match t with
  | c :: d :: u => fr2 b many c d u
  | _ => (5, 0, [])
@[irreducible] def fr (s : List UInt8) (many : Nat) : Nat × Nat × List Nat := if (Vary.rd s).2.2 ≠ 0 then ((Vary.rd s).2.2, 0, []) else fr1 (Vary.rd s).1 many (s.drop (Vary.rd s).2.1)
@[irreducible] def rdP (s : List UInt8) (many : Int) : List Nat × Nat :=
  if many < 0 then ([], 3) else if 64 < many then ([], 2) else if (fr s many.toNat).1 ≠ 0 then ([], (fr s many.toNat).1) else add (fr s many.toNat).2.1 (fr s many.toNat).2.2
section
variable {b w q many a k e : Nat} {last : Int} {M : List Nat} {c d : UInt8} {u s t : List UInt8}
theorem fr3_err (h : (onS w q M (-1) u).1 ≠ 0) : fr3 b w q M u = ((onS w q M (-1) u).1, 0, []) := by unfold fr3; rw [if_pos h]
theorem fr3_more (h : (onS w q M (-1) u).1 = 0) (h2 : (onS w q M (-1) u).2.2 ≠ []) : fr3 b w q M u = (1, 0, []) := by unfold fr3; rw [if_neg (fun x => x h), if_pos h2]
theorem fr3_ok (h : (onS w q M (-1) u).1 = 0) (h2 : (onS w q M (-1) u).2.2 = []) : fr3 b w q M u = (0, b, (onS w q M (-1) u).2.1) := by unfold fr3; rw [if_neg (fun x => x h), if_neg (fun x => x h2)]
theorem fr2_wide (h : 64 < c.toNat) : fr2 b many c d u = (3, 0, []) := by unfold fr2; rw [if_pos h]
theorem fr2_short (h : ¬ 64 < c.toNat) (h2 : u.length < Bits.size many c.toNat) : fr2 b many c d u = (5, 0, []) := by unfold fr2; rw [if_neg h, if_pos h2]
theorem fr2_bad (h : ¬ 64 < c.toNat) (h2 : ¬ u.length < Bits.size many c.toNat) (h3 : Bits.chk (u.take (Bits.size many c.toNat)) many c.toNat ≠ 0) : fr2 b many c d u = (Bits.chk (u.take (Bits.size many c.toNat)) many c.toNat, 0, []) := by
  unfold fr2; rw [if_neg h, if_neg h2, if_pos h3]
theorem fr2_ok (h : ¬ 64 < c.toNat) (h2 : ¬ u.length < Bits.size many c.toNat) (h3 : Bits.chk (u.take (Bits.size many c.toNat)) many c.toNat = 0) : fr2 b many c d u = fr3 b c.toNat d.toNat (Bits.unp (u.take (Bits.size many c.toNat)) many c.toNat) (u.drop (Bits.size many c.toNat)) := by
  unfold fr2; rw [if_neg h, if_neg h2, if_neg (fun x => x h3)]
theorem fr1_short (h : t.length < 2) : fr1 b many t = (5, 0, []) := by
  unfold fr1
  match t, h with
  | [], _ => rfl
  | [_], _ => rfl
theorem fr1_cons : fr1 b many (c :: d :: u) = fr2 b many c d u := by unfold fr1; rfl
theorem fr_vary (h : Vary.rd s = (a, k, e)) (he : e ≠ 0) : fr s many = (e, 0, []) := by unfold fr; rw [h, if_pos he]
theorem fr_ok (h : Vary.rd s = (a, k, 0)) : fr s many = fr1 a many (s.drop k) := by unfold fr; rw [h, if_neg (fun x => x rfl)]
theorem rdP_neg {m : Int} (h : m < 0) : rdP s m = ([], 3) := by unfold rdP; rw [if_pos h]
theorem rdP_many {m : Int} (h : 64 < m) : rdP s m = ([], 2) := by unfold rdP; rw [if_neg (by omega), if_pos h]
theorem rdP_err (h : many ≤ 64) (h2 : (fr s many).1 ≠ 0) : rdP s (many : Int) = ([], (fr s many).1) := by unfold rdP; rw [if_neg (by omega), if_neg (by omega), Int.toNat_natCast, if_pos h2]
theorem rdP_ok (h : many ≤ 64) (h2 : (fr s many).1 = 0) : rdP s (many : Int) = add (fr s many).2.1 (fr s many).2.2 := by unfold rdP; rw [if_neg (by omega), if_neg (by omega), Int.toNat_natCast, if_neg (fun x => x h2)]
theorem onE_len : (onE w M last s).2.2.1.length = M.length := by
  unfold onE
  split
  · rfl
  · repeat' split
    all_goals simp
end
theorem onE_bd (w : Nat) (M : List Nat) (last : Int) (s : List UInt8) : (onE w M last s).1 ≤ 5 ∧ (onE w M last s).2.1 ≤ 255 ∧ (onE w M last s).2.2.2.length ≤ s.length := by
  unfold onE
  split
  · simp
  · rename_i c t
    have hr := Vary.rd_bd t
    have hc := c.toNat_lt
    split
    · simp
    split
    · simp
    split
    · simp
    split
    · simp only [List.length_cons]; omega
    split
    · simp
    · simp only [List.length_cons, List.length_drop]; omega
theorem onE_lt (w : Nat) (M : List Nat) (last : Int) (s : List UInt8) (hM : ∀ x ∈ M, x < 18446744073709551616) : ∀ x ∈ (onE w M last s).2.2.1, x < 18446744073709551616 := by
  unfold onE
  split
  · exact hM
  · rename_i c t
    repeat' split
    all_goals first | exact hM | skip
    intro x hx
    rcases List.mem_or_eq_of_mem_set hx with h | rfl
    · exact hM x h
    · exact (Vary.rd_bd t).2.1
theorem onS_succ (w q : Nat) (M : List Nat) (last : Int) (s : List UInt8) : onS w (q + 1) M last s = if (onE w M last s).1 ≠ 0 then ((onE w M last s).1, M, s) else onS w q (onE w M last s).2.2.1 (onE w M last s).2.1 (onE w M last s).2.2.2 := rfl
theorem onS_len (w : Nat) : ∀ (q : Nat) (M : List Nat) (last : Int) (s : List UInt8), (onS w q M last s).2.1.length = M.length
  | 0, _, _, _ => rfl
  | q + 1, M, last, s => by
    rw [onS_succ]
    split
    · rfl
    · rw [onS_len w q, onE_len]
theorem onS_lt (w : Nat) : ∀ (q : Nat) (M : List Nat) (last : Int) (s : List UInt8), (∀ x ∈ M, x < 18446744073709551616) → ∀ x ∈ (onS w q M last s).2.1, x < 18446744073709551616
  | 0, _, _, _, h => h
  | q + 1, M, last, s, h => by
    rw [onS_succ]
    split
    · exact h
    · exact onS_lt w q _ _ _ (onE_lt w M last s h)
end Hy.Pat
