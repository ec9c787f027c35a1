/- Patch: plain words of reading, one step at a time. No program in sight. -/
import Derived.Test.YtdblegdbfdhepaaPah
namespace Hy.Pat
open Go
/-- one that stands out: what is wrong, its place, the numbers then, what is left -/
@[irreducible] def onE (w : Nat) (M : List Nat) (last : Int) (s : List UInt8) : Nat × Nat × List Nat × List UInt8 := match s with
  | [] => (5, 0, M, [])
  | c :: t =>
    if M.length ≤ c.toNat then (3, 0, M, t)
    else if (c.toNat : Int) ≤ last then (4, 0, M, t)
    else if M.getD c.toNat 0 ≠ 0 then (1, 0, M, t)
    else if (Vary.rd t).2.2 ≠ 0 then ((Vary.rd t).2.2, 0, M, t)
    else if Lib.bitLen (Vary.rd t).1 ≤ w then (1, 0, M, t)
    else (0, c.toNat, M.set c.toNat (Vary.rd t).1, t.drop (Vary.rd t).2.1)
section
variable {w : Nat} {M : List Nat} {last : Int} {c : UInt8} {t : List UInt8} {n k e : Nat}
theorem onE_nil : onE w M last [] = (5, 0, M, []) := by unfold onE; rfl
theorem onE_range (h : M.length ≤ c.toNat) : onE w M last (c :: t) = (3, 0, M, t) := by unfold onE; simp only; rw [if_pos h]
theorem onE_state (h : ¬ M.length ≤ c.toNat) (h2 : (c.toNat : Int) ≤ last) : onE w M last (c :: t) = (4, 0, M, t) := by unfold onE; simp only; rw [if_neg h, if_pos h2]
theorem onE_form (h : ¬ M.length ≤ c.toNat) (h2 : ¬ (c.toNat : Int) ≤ last) (h3 : M.getD c.toNat 0 ≠ 0) : onE w M last (c :: t) = (1, 0, M, t) := by unfold onE; simp only; rw [if_neg h, if_neg h2, if_pos h3]
theorem onE_vary (h : ¬ M.length ≤ c.toNat) (h2 : ¬ (c.toNat : Int) ≤ last) (h3 : M.getD c.toNat 0 = 0) (hr : Vary.rd t = (n, k, e)) (he : e ≠ 0) : onE w M last (c :: t) = (e, 0, M, t) := by
  unfold onE; simp only; rw [if_neg h, if_neg h2, if_neg (fun h => h h3), hr, if_pos he]
theorem onE_fits (h : ¬ M.length ≤ c.toNat) (h2 : ¬ (c.toNat : Int) ≤ last) (h3 : M.getD c.toNat 0 = 0) (hr : Vary.rd t = (n, k, 0)) (h4 : Lib.bitLen n ≤ w) : onE w M last (c :: t) = (1, 0, M, t) := by
  unfold onE; simp only; rw [if_neg h, if_neg h2, if_neg (fun h => h h3), hr, if_neg (by simp), if_pos h4]
theorem onE_ok (h : ¬ M.length ≤ c.toNat) (h2 : ¬ (c.toNat : Int) ≤ last) (h3 : M.getD c.toNat 0 = 0) (hr : Vary.rd t = (n, k, 0)) (h4 : ¬ Lib.bitLen n ≤ w) : onE w M last (c :: t) = (0, c.toNat, M.set c.toNat n, t.drop k) := by
  unfold onE; simp only; rw [if_neg h, if_neg h2, if_neg (fun h => h h3), hr, if_neg (by simp), if_neg h4]
end
/-- so many that stand out -/
def onS (w : Nat) : Nat → List Nat → Int → List UInt8 → Nat × List Nat × List UInt8
  | 0, M, _, s => (0, M, s)
  | q + 1, M, last, s => if (onE w M last s).1 ≠ 0 then ((onE w M last s).1, M, s) else onS w q (onE w M last s).2.2.1 (onE w M last s).2.1 (onE w M last s).2.2.2
/-- base added to each, or what is wrong -/
def add (b : Nat) (M : List Nat) : List Nat × Nat := if M.all (fun x => decide (x + b < 18446744073709551616)) = true then (M.map (· + b), 0) else ([], 8)
end Hy.Pat
