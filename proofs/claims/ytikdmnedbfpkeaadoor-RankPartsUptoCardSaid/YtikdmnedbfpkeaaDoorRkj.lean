/- Select by words: plain law. -/
import Derived.Test.YtikdmnedbfpkeaaDoorRkh
import Derived.Test.YtikdmnedbfpkeaaDoorRke
namespace Hy.Mrk
open Hy.Tz Hy.Pop Hy.Mk
def clr : Nat → Nat → Nat
  | x, 0 => x
  | x, k + 1 => clr (x &&& (x - 1)) k
theorem and_even (x : Nat) : (2 * x) &&& (2 * x - 1) = 2 * (x &&& (x - 1)) := by
  cases x with
  | zero => rfl
  | succ x =>
    apply Nat.eq_of_testBit_eq
    intro i
    cases i with
    | zero => simp [Nat.testBit_zero]
    | succ i =>
      rw [Nat.testBit_and, Nat.testBit_succ, Nat.testBit_succ, Nat.testBit_succ, show 2 * (x + 1) / 2 = x + 1 from by omega, show (2 * (x + 1) - 1) / 2 = x from by omega, show 2 * ((x + 1) &&& (x + 1 - 1)) / 2 = (x + 1) &&& x from by rw [Nat.add_sub_cancel]; omega, Nat.testBit_and]
theorem and_odd (x : Nat) : (2 * x + 1) &&& (2 * x + 1 - 1) = 2 * x := by
  apply Nat.eq_of_testBit_eq
  intro i
  cases i with
  | zero => simp [Nat.testBit_zero]
  | succ i => rw [Nat.testBit_and, Nat.testBit_succ, Nat.testBit_succ, show (2 * x + 1) / 2 = x from by omega, show (2 * x + 1 - 1) / 2 = x from by omega, Nat.testBit_succ, show 2 * x / 2 = x from by omega, Bool.and_self]
theorem clr_even (k : Nat) : ∀ x, clr (2 * x) k = 2 * clr x k := by
  induction k with
  | zero => intro x; rfl
  | succ k ih => intro x; unfold clr; rw [and_even, ih]
theorem pb_even (k x : Nat) : pb (k + 1) (2 * x) = pb k x := by
  show 2 * x % 2 + pb k (2 * x / 2) = _
  rw [show 2 * x / 2 = x from by omega]; omega
theorem pb_odd (k x : Nat) : pb (k + 1) (2 * x + 1) = 1 + pb k x := by
  show (2 * x + 1) % 2 + pb k ((2 * x + 1) / 2) = _
  rw [show (2 * x + 1) / 2 = x from by omega]; omega
theorem pb_step : ∀ (k x : Nat), x < 2 ^ k → x ≠ 0 → pb k (x &&& (x - 1)) + 1 = pb k x := by
  intro k
  induction k with
  | zero => intro x h h0; omega
  | succ k ih =>
    intro x h h0
    rw [Nat.pow_succ] at h
    rcases Nat.mod_two_eq_zero_or_one x with hx | hx
    · obtain ⟨q, rfl⟩ : ∃ q, x = 2 * q := ⟨x / 2, by omega⟩
      rw [and_even, pb_even, pb_even]
      exact ih q (by omega) (by omega)
    · obtain ⟨q, rfl⟩ : ∃ q, x = 2 * q + 1 := ⟨x / 2, by omega⟩
      rw [and_odd, pb_even, pb_odd, Nat.add_comm]
theorem tz_even (f x : Nat) : tz (f + 1) (2 * x) = tz f x + 1 := by
  show (if 2 * x % 2 = 1 then 0 else tz f (2 * x / 2) + 1) = _
  rw [if_neg (by omega), show 2 * x / 2 = x from by omega]
theorem tz_odd (f x : Nat) : tz (f + 1) (2 * x + 1) = 0 := by
  show (if (2 * x + 1) % 2 = 1 then 0 else _) = _
  rw [if_pos (by omega)]
theorem sel_word : ∀ (l : List Bool) (k f i : Nat), l.length ≤ f → k < l.count true → sel l k i = some (i + tz f (clr (word l) k)) := by
  intro l
  induction l with
  | nil => intro k f i _ h; simp at h
  | cons b l ih =>
    intro k f i hf h
    obtain ⟨f, rfl⟩ : ∃ g, f = g + 1 := ⟨f - 1, by rw [List.length_cons] at hf; omega⟩
    rw [List.length_cons] at hf
    cases b with
    | false =>
      have e : word (false :: l) = 2 * word l := by simp [word]
      rw [e, clr_even, tz_even]
      show sel l k (i + 1) = _
      rw [ih k f (i + 1) (by omega) (by simpa using h)]
      congr 1; omega
    | true =>
      have e : word (true :: l) = 2 * word l + 1 := by simp [word]; omega
      rw [e]
      cases k with
      | zero =>
        show some i = some (i + tz (f + 1) (2 * word l + 1))
        rw [tz_odd]; rfl
      | succ k =>
        show sel l k (i + 1) = some (i + tz (f + 1) (clr ((2 * word l + 1) &&& (2 * word l + 1 - 1)) k))
        rw [and_odd, clr_even, tz_even, ih k f (i + 1) (by omega) (by simpa using h)]
        congr 1; omega
theorem sel_app (a b : List Bool) : ∀ (k i : Nat), sel (a ++ b) k i = if k < a.count true then sel a k i else sel b (k - a.count true) (i + a.length) := by
  induction a with
  | nil => intro k i; simp
  | cons c a ih =>
    intro k i
    cases c with
    | false =>
      show sel (a ++ b) k (i + 1) = _
      rw [ih]
      have e : (false :: a).count true = a.count true := by simp
      rw [e, List.length_cons, show i + (a.length + 1) = i + 1 + a.length from by omega]
      rfl
    | true =>
      have e : (true :: a).count true = a.count true + 1 := by simp
      rw [e]
      cases k with
      | zero => rw [if_pos (by omega)]; rfl
      | succ k =>
        show sel (a ++ b) k (i + 1) = _
        rw [ih, List.length_cons, show i + (a.length + 1) = i + 1 + a.length from by omega, show k + 1 - (a.count true + 1) = k - a.count true from by omega]
        by_cases h : k < a.count true
        · rw [if_pos h, if_pos (by omega)]; rfl
        · rw [if_neg h, if_neg (by omega)]
theorem sel_none : ∀ (l : List Bool) (k i : Nat), l = [] → sel l k i = none := fun l k i h => by subst h; rfl
theorem sel_next (l : List Bool) (i k : Nat) (h : (chunk l i).count true ≤ k) : sel (l.drop (64 * i)) k (64 * i) = sel (l.drop (64 * (i + 1))) (k - (chunk l i).count true) (64 * (i + 1)) := by
  have e : l.drop (64 * i) = chunk l i ++ l.drop (64 * (i + 1)) := by
    unfold chunk
    rw [show 64 * (i + 1) = 64 * i + 64 from by omega, ← List.drop_drop, List.take_append_drop]
  rw [e, sel_app, if_neg (by omega)]
  by_cases hl : l.length ≤ 64 * (i + 1)
  · rw [sel_none _ _ _ (List.drop_of_length_le hl), sel_none _ _ _ (List.drop_of_length_le hl)]
  · have : (chunk l i).length = 64 := by unfold chunk; rw [List.length_take, List.length_drop]; omega
    rw [this]; rfl
theorem sel_here (l : List Bool) (i k : Nat) (h : k < (chunk l i).count true) : sel (l.drop (64 * i)) k (64 * i) = some (64 * i + tz 64 (clr (wd l i) k)) := by
  have e : l.drop (64 * i) = chunk l i ++ l.drop (64 * (i + 1)) := by
    unfold chunk
    rw [show 64 * (i + 1) = 64 * i + 64 from by omega, ← List.drop_drop, List.take_append_drop]
  rw [e, sel_app, if_pos h, sel_word _ _ 64 _ (chunk_le l i) h]
  rfl
theorem sel_end (l : List Bool) (i k : Nat) (h : l.length ≤ 64 * i) : sel (l.drop (64 * i)) k (64 * i) = none := sel_none _ _ _ (List.drop_of_length_le h)
theorem pb_chunk (l : List Bool) (i : Nat) : pb 64 (wd l i) = (chunk l i).count true := pb_word _ _ (chunk_le l i)
end Hy.Mrk
