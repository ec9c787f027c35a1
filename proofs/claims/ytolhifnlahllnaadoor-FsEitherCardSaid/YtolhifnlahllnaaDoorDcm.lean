/- Texts: places in an ascending list, plain. No program in sight. -/
import Derived.Test.YtolhifnlahllnaaDoorTlp
namespace Hy.Dct
open Go
theorem cnt_of (b : List T) (p : T → Bool) (i : Nat) (hi : i ≤ b.length) (h1 : ∀ k (hk : k < b.length), k < i → p b[k] = true) (h2 : ∀ k (hk : k < b.length), i ≤ k → p b[k] = false) : b.countP p = i := by
  induction b generalizing i with
  | nil => simp at hi; subst hi; rfl
  | cons x b ih =>
    cases i with
    | zero =>
      refine List.countP_eq_zero.2 fun y hy => ?_
      obtain ⟨k, hk, rfl⟩ := List.mem_iff_getElem.1 hy
      rw [h2 k hk (Nat.zero_le _)]; decide
    | succ i =>
      rw [List.countP_cons, ih i (by simpa using hi) (fun k hk hki => h1 (k + 1) (by simpa using hk) (by omega)) (fun k hk hki => h2 (k + 1) (by simpa using hk) (by omega))]
      have := h1 0 (by simp) (by omega)
      simp only [List.getElem_cons_zero] at this
      rw [this]; rfl
theorem plc_of {b : List T} {s : T} {i : Nat} (hi : i ≤ b.length) (h1 : ∀ k (hk : k < b.length), k < i → b[k] < s) (h2 : ∀ k (hk : k < b.length), i ≤ k → ¬ b[k] < s) : plc b s = i := by
  rw [plc_eq]; exact cnt_of b _ i hi (fun k hk h => decide_eq_true (h1 k hk h)) (fun k hk h => decide_eq_false (h2 k hk h))
theorem ple_of {b : List T} {s : T} {i : Nat} (hi : i ≤ b.length) (h1 : ∀ k (hk : k < b.length), k < i → ¬ s < b[k]) (h2 : ∀ k (hk : k < b.length), i ≤ k → s < b[k]) : ple b s = i := by
  unfold ple
  refine cnt_of b _ i hi (fun k hk h => decide_eq_true (List.not_lt.1 (h1 k hk h))) (fun k hk h => decide_eq_false fun h3 => ?_)
  rcases tot3 b[k] s with h4 | h4 | h4
  · exact lt_asy h4 (h2 k hk h)
  · have := h2 k hk h; rw [h4] at this; exact lt_irr _ this
  · exact List.not_lt.2 h3 h4
theorem asc_le {b : List T} (hb : b.Pairwise (· < ·)) {i k : Nat} (hik : i ≤ k) (hk : k < b.length) : b[i] = b[k]'hk ∨ b[i] < b[k]'hk := by
  rcases Nat.eq_or_lt_of_le hik with h | h
  · subst h; exact .inl rfl
  · exact .inr (List.pairwise_iff_getElem.1 hb i k (by omega) hk h)
theorem up_lt {b : List T} (hb : b.Pairwise (· < ·)) {s : T} {i k : Nat} (hik : k ≤ i) (hi : i < b.length) (h : b[i] < s) : b[k]'(by omega) < s := by
  rcases asc_le hb hik hi with e | e
  · rw [e]; exact h
  · exact lt_tr e h
theorem up_ge {b : List T} (hb : b.Pairwise (· < ·)) {s : T} {i k : Nat} (hik : i ≤ k) (hk : k < b.length) (h : ¬ b[i] < s) : ¬ b[k] < s := fun h2 => h (up_lt hb hik hk h2)
theorem up_gt {b : List T} (hb : b.Pairwise (· < ·)) {s : T} {i k : Nat} (hik : i ≤ k) (hk : k < b.length) (h : s < b[i]) : s < b[k] := by
  rcases asc_le hb hik hk with e | e
  · rw [← e]; exact h
  · exact lt_tr h e
theorem up_ngt {b : List T} (hb : b.Pairwise (· < ·)) {s : T} {i k : Nat} (hik : k ≤ i) (hi : i < b.length) (h : ¬ s < b[i]) : ¬ s < b[k]'(by omega) := fun h2 => h (up_gt hb hik hi h2)
theorem gt_of (a b : T) : decide (b < a) = (!decide (a < b) && !(a == b)) := by
  rcases tot3 a b with h | h | h
  · simp [h, lt_asy h]
  · subst h; simp [lt_irr a]
  · have h1 : a ≠ b := fun e => by subst e; exact lt_irr _ h
    simp [h, lt_asy h, h1]
end Hy.Dct
