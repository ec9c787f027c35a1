/- TrailingZeros64 by its table: plain law and walk. -/
import Derived.Test.YtikdmnedbfpkeaaDoorMka
namespace Hy.Tz
def tab : Array Nat := #[0, 1, 56, 2, 57, 49, 28, 3, 61, 58, 42, 50, 38, 29, 17, 4, 62, 47, 59, 36, 45, 43, 51, 22, 53, 39, 33, 30, 24, 18, 12, 5, 63, 55, 48, 27, 60, 41, 37, 16, 46, 35, 44, 21, 52, 32, 23, 11, 54, 26, 40, 15, 34, 20, 31, 10, 25, 14, 19, 9, 13, 8, 7, 6]
def ix (t : Nat) : Nat := 2 ^ t * 285870213051353865 % 18446744073709551616 / 288230376151711744
theorem tab_ix : ∀ t : Fin 64, tab[ix t.val]? = some t.val := by decide +kernel
theorem ix_lt (t : Nat) : ix t < 64 := by unfold ix; omega
/-- trailing zeros of a number that is not 0: the greatest t with 2^t dividing it -/
def tz : Nat → Nat → Nat
  | 0, _ => 0
  | f + 1, x => if x % 2 = 1 then 0 else tz f (x / 2) + 1
theorem tz_spec : ∀ (f x : Nat), x < 2 ^ f → x ≠ 0 → ∃ q, x = 2 ^ tz f x * (2 * q + 1) ∧ tz f x < f := by
  intro f
  induction f with
  | zero => intro x h h0; omega
  | succ f ih =>
    intro x h h0
    unfold tz
    by_cases ho : x % 2 = 1
    · rw [if_pos ho]; exact ⟨x / 2, by omega, by omega⟩
    · rw [if_neg ho]
      obtain ⟨q, e, hl⟩ := ih (x / 2) (by rw [Nat.pow_succ] at h; omega) (by omega)
      refine ⟨q, ?_, by omega⟩
      rw [Nat.pow_succ, Nat.mul_comm (2 ^ tz f (x / 2)) 2, Nat.mul_assoc, ← e]; omega
/-- x & -x is the least one of x -/
theorem low (x : Nat) (h : x < 2 ^ 64) (h0 : x ≠ 0) : x &&& (2 ^ 64 - x) = 2 ^ tz 64 x := by
  obtain ⟨q, e, hl⟩ := tz_spec 64 x h h0
  generalize tz 64 x = t at *
  have hp : 2 ^ 64 = 2 ^ t * 2 ^ (64 - t) := by rw [← Nat.pow_add]; congr 1; omega
  have hk : 2 ^ (64 - t) = 2 * 2 ^ (63 - t) := by rw [← Nat.pow_succ']; congr 1; omega
  have h2 : 2 * q + 1 < 2 ^ (64 - t) := by
    rw [hp, e] at h; exact Nat.lt_of_mul_lt_mul_left h
  have e2 : 2 ^ 64 - x = 2 ^ t * (2 * (2 ^ (63 - t) - q - 1) + 1) := by
    have h3 : 2 * (2 ^ (63 - t) - q - 1) + 1 = 2 ^ (64 - t) - (2 * q + 1) := by omega
    rw [h3, Nat.mul_sub, ← hp, ← e]
  rw [e2]
  generalize 2 ^ (63 - t) - q - 1 = r at *
  rw [e]
  have hr : 2 * r + 1 = 2 ^ (64 - t) - (2 * q + 1) := by
    have := e2; rw [e] at this
    have h4 : 2 ^ t * (2 * r + 1) = 2 ^ t * (2 ^ (64 - t) - (2 * q + 1)) := by rw [Nat.mul_sub, ← hp]; exact this.symm
    exact Nat.eq_of_mul_eq_mul_left (Nat.two_pow_pos t) h4
  rw [Nat.mul_comm, Nat.mul_comm (2 ^ t) (2 * r + 1), ← Nat.shiftLeft_eq, ← Nat.shiftLeft_eq, ← Nat.shiftLeft_and_distrib]
  have hrq : r = 2 ^ (63 - t) - (q + 1) := by omega
  have h5 : (2 * q + 1) &&& (2 * r + 1) = 1 := by
    apply Nat.eq_of_testBit_eq
    intro i
    rw [Nat.testBit_and]
    cases i with
    | zero => simp [Nat.testBit_zero]
    | succ i =>
      rw [Nat.testBit_succ, Nat.testBit_succ, Nat.testBit_succ, show (2 * q + 1) / 2 = q from by omega, show (2 * r + 1) / 2 = r from by omega, hrq, show (1 : Nat) / 2 = 0 from rfl, Nat.zero_testBit]
      rw [Nat.testBit_two_pow_sub_succ (by omega)]
      cases q.testBit i <;> simp
  rw [h5, Nat.shiftLeft_eq, Nat.one_mul]
end Hy.Tz
