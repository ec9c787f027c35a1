/- Runs: plain words and laws. No program in sight. -/
import Derived.Test.YtgobnpogmghgkaaBase
namespace Hy.Runs
abbrev Run := Nat × Int
/-- one number more, at the front (the document builds so, from the back) -/
def put (x : Nat) : List Run → List Run
  | [] => [(x, 1)]
  | (v, k) :: r => if v = x then (v, k + 1) :: r else (x, 1) :: (v, k) :: r
def runs : List Nat → List Run
  | [] => []
  | x :: l => put x (runs l)
/-- how many of the first are x -/
def lead (x : Nat) : List Nat → Nat
  | [] => 0
  | y :: l => if y = x then lead x l + 1 else 0
theorem lead_le (x : Nat) (l : List Nat) : lead x l ≤ l.length := by
  induction l with
  | nil => exact Nat.le_refl _
  | cons y l ih => simp only [lead, List.length_cons]; split <;> omega
theorem runs_head (x : Nat) (l : List Nat) : ∃ k r, runs (x :: l) = (x, k) :: r := by
  rw [runs]
  cases h : runs l with
  | nil => exact ⟨1, [], rfl⟩
  | cons a r =>
    obtain ⟨v, k⟩ := a
    unfold put
    by_cases e : v = x
    · subst e; exact ⟨k + 1, r, by simp⟩
    · exact ⟨1, (v, k) :: r, by simp [e]⟩
/-- from the front: a run, and the rest (the program goes so) -/
theorem runs_front (x : Nat) (l : List Nat) : runs (x :: l) = (x, (lead x l : Int) + 1) :: runs (l.drop (lead x l)) := by
  induction l with
  | nil => rfl
  | cons y l ih =>
    by_cases e : y = x
    · subst e
      rw [runs, ih]
      simp [put, lead]
    · obtain ⟨k, r, h⟩ := runs_head y l
      rw [runs, h]
      simp [put, lead, e, h]
def unrun (r : List Run) : List Nat := r.flatMap fun a => List.replicate a.2.toNat a.1
theorem runs_pos (l : List Nat) : ∀ a ∈ runs l, 1 ≤ a.2 := by
  induction l with
  | nil => intro a h; cases h
  | cons x l ih =>
    intro a h
    rw [runs] at h
    cases e : runs l with
    | nil => rw [e] at h; simp [put] at h; subst h; simp
    | cons b r =>
      obtain ⟨v, k⟩ := b
      rw [e] at h ih
      have hk : (1 : Int) ≤ k := ih (v, k) List.mem_cons_self
      simp only [put] at h
      split at h
      · rcases List.mem_cons.1 h with rfl | h
        · simp only; omega
        · exact ih a (List.mem_cons_of_mem _ h)
      · rcases List.mem_cons.1 h with rfl | h
        · simp
        · exact ih a h
theorem unrun_runs (l : List Nat) : unrun (runs l) = l := by
  induction l with
  | nil => rfl
  | cons x l ih =>
    have hp := runs_pos l
    rw [runs]
    cases e : runs l with
    | nil => rw [e] at ih; simp [unrun] at ih; subst ih; simp [put, unrun]
    | cons b r =>
      obtain ⟨v, k⟩ := b
      rw [e] at ih hp
      have hk : (1 : Int) ≤ k := hp (v, k) List.mem_cons_self
      simp only [put]
      split
      · rename_i h; subst h
        have : (k + 1).toNat = k.toNat + 1 := by omega
        simp only [unrun, List.flatMap_cons, this, List.replicate_succ, List.cons_append] at ih ⊢
        rw [ih]
      · rw [← ih]; simp [unrun]
/-- Check: what is wrong with a list of runs -/
def chk : Option Nat → Int → List Run → Nat
  | _, _, [] => 0
  | p, s, (v, n) :: r => if n < 1 ∨ 64 < n then 3 else if p = some v then 6 else if 64 < s + n then 2 else chk (some v) (s + n) r
end Hy.Runs
namespace Hy.Runs
@[irreducible] def pv (l : List Run) (k : Nat) : Option Nat := match k with | 0 => none | j + 1 => l[j]?.map (·.1)
theorem pv_zero (l : List Run) : pv l 0 = none := by unfold pv; rfl
theorem pv_succ (l : List Run) (j : Nat) (h : j < l.length) : pv l (j + 1) = some l[j].1 := by unfold pv; simp [h]
theorem chk_long {p : Option Nat} {s : Int} {l : List Run} {k : Nat} (h : k < l.length) (hn : l[k].2 < 1 ∨ 64 < l[k].2) : chk p s (l.drop k) = 3 := by
  rw [List.drop_eq_getElem_cons h]; simp [chk, hn]
theorem chk_same {p : Option Nat} {s : Int} {l : List Run} {k : Nat} (h : k < l.length) (hn : ¬ (l[k].2 < 1 ∨ 64 < l[k].2)) (hp : p = some l[k].1) : chk p s (l.drop k) = 6 := by
  rw [List.drop_eq_getElem_cons h]; simp [chk, hn, hp]
theorem chk_many {p : Option Nat} {s : Int} {l : List Run} {k : Nat} (h : k < l.length) (hn : ¬ (l[k].2 < 1 ∨ 64 < l[k].2)) (hp : p ≠ some l[k].1) (hs : 64 < s + l[k].2) : chk p s (l.drop k) = 2 := by
  rw [List.drop_eq_getElem_cons h]; simp [chk, hn, hp, hs]
theorem chk_next {p : Option Nat} {s : Int} {l : List Run} {k : Nat} (h : k < l.length) (hn : ¬ (l[k].2 < 1 ∨ 64 < l[k].2)) (hp : p ≠ some l[k].1) (hs : ¬ 64 < s + l[k].2) : chk p s (l.drop k) = chk (pv l (k + 1)) (s + l[k].2) (l.drop (k + 1)) := by
  rw [List.drop_eq_getElem_cons h, pv_succ l k h]; simp [chk, hn, hp, hs]
end Hy.Runs
namespace Hy.Runs
theorem runs_le (l : List Nat) : ∀ a ∈ runs l, a.2 ≤ l.length := by
  induction l with
  | nil => intro a h; cases h
  | cons x l ih =>
    intro a h
    rw [runs] at h
    rw [List.length_cons]
    cases e : runs l with
    | nil => rw [e] at h; simp [put] at h; subst h; simp only; omega
    | cons b r =>
      obtain ⟨v, k⟩ := b
      rw [e] at h ih
      have hk : k ≤ l.length := ih (v, k) List.mem_cons_self
      simp only [put] at h
      split at h
      · rcases List.mem_cons.1 h with rfl | h
        · simp only; omega
        · have := ih a (List.mem_cons_of_mem _ h); omega
      · rcases List.mem_cons.1 h with rfl | h
        · simp only; omega
        · have := ih a h; omega
end Hy.Runs
namespace Hy.Runs
theorem runs_len (l : List Nat) : (runs l).length ≤ l.length := by
  induction l with
  | nil => exact Nat.le_refl _
  | cons x l ih =>
    rw [runs, List.length_cons]
    cases e : runs l with
    | nil => simp [put]
    | cons b r =>
      obtain ⟨v, k⟩ := b
      rw [e] at ih
      simp only [List.length_cons] at ih
      simp only [put]
      split
      · simp only [List.length_cons]; omega
      · simp only [List.length_cons]; omega
end Hy.Runs
