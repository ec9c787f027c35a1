/- Runs: the plain laws. No program in sight. -/
import Derived.Test.YtgobnpogmghgkaaRuq
namespace Hy.Runs
theorem joinR_put (v : Nat) (R S : List Run) : joinR (put v R) S = put v (joinR R S) := by
  cases R with
  | nil =>
    cases S with
    | nil => simp [put, joinR]
    | cons s S =>
      obtain ⟨s, k⟩ := s
      by_cases h : v = s
      · subst h; simp [put, joinR, Int.add_comm]
      · simp [put, joinR, h, Ne.symm h]
  | cons a R =>
    obtain ⟨u, m⟩ := a
    by_cases h : u = v
    · subst h
      cases R with
      | nil =>
        cases S with
        | nil => simp [put, joinR]
        | cons s S =>
          obtain ⟨s, k⟩ := s
          by_cases h : u = s
          · subst h
            simp [put, joinR]
            omega
          · simp [put, joinR, h]
      | cons c R => simp [put, joinR]
    · cases R with
      | nil =>
        cases S with
        | nil => simp [put, joinR, h]
        | cons s S =>
          obtain ⟨s, k⟩ := s
          by_cases h2 : u = s
          · subst h2; simp [put, joinR, h]
          · simp [put, joinR, h, h2]
      | cons c R => simp [put, joinR, h]
theorem joinR_runs (x y : List Nat) : joinR (runs x) (runs y) = runs (x ++ y) := by
  induction x with
  | nil => rfl
  | cons v x ih => rw [List.cons_append, runs, runs, joinR_put, ih]
def adj : Option Nat → List Run → Prop
  | _, [] => True
  | p, (v, _) :: r => p ≠ some v ∧ adj (some v) r
theorem adj_none {p : Option Nat} {r : List Run} (h : adj p r) : adj none r := by
  cases r with
  | nil => trivial
  | cons a r => obtain ⟨v, n⟩ := a; exact ⟨by simp, h.2⟩
theorem chk_adj (r : List Run) : ∀ p s, chk p s r = 0 → adj p r := by
  induction r with
  | nil => intros; trivial
  | cons a r ih =>
    obtain ⟨v, n⟩ := a
    intro p s h
    simp only [chk] at h
    split at h
    · cases h
    · split at h
      · cases h
      · split at h
        · cases h
        · rename_i _ h2 _
          exact ⟨h2, ih _ _ h⟩
theorem chk_of (r : List Run) : ∀ (p : Option Nat) (s : Int), 0 ≤ s → (∀ a ∈ r, 1 ≤ a.2) → adj p r → s + (unrun r).length ≤ 64 → chk p s r = 0 := by
  induction r with
  | nil => intros; rfl
  | cons a r ih =>
    obtain ⟨v, n⟩ := a
    intro p s hs hp ha ht
    have e : (unrun ((v, n) :: r)).length = n.toNat + (unrun r).length := by simp [unrun]
    have h1 : 1 ≤ n := hp (v, n) List.mem_cons_self
    rw [e] at ht
    simp only [chk]
    rw [if_neg (by omega), if_neg ha.1, if_neg (by omega)]
    exact ih _ _ (by omega) (fun a h => hp a (List.mem_cons_of_mem _ h)) ha.2 (by omega)
theorem put_adj (v : Nat) (R : List Run) (h : adj none R) : adj none (put v R) := by
  cases R with
  | nil => exact ⟨by simp, trivial⟩
  | cons a R =>
    obtain ⟨u, m⟩ := a
    by_cases e : u = v
    · subst e; simp only [put, if_true]; exact ⟨by simp, h.2⟩
    · simp only [put, if_neg e]; exact ⟨by simp, by simpa using Ne.symm e, h.2⟩
theorem runs_adj (l : List Nat) : adj none (runs l) := by
  induction l with
  | nil => trivial
  | cons x l ih => exact put_adj x _ ih
theorem chk_runs (l : List Nat) (h : l.length ≤ 64) : chk none 0 (runs l) = 0 :=
  chk_of _ _ _ (by omega) (runs_pos l) (runs_adj l) (by rw [unrun_runs]; omega)
theorem runs_rep (v : Nat) (t : List Nat) (ht : adj (some v) (runs t)) (k : Nat) : runs (List.replicate (k + 1) v ++ t) = (v, (k : Int) + 1) :: runs t := by
  induction k with
  | zero =>
    show put v (runs t) = _
    cases e : runs t with
    | nil => rfl
    | cons a r =>
      obtain ⟨u, m⟩ := a
      rw [e] at ht
      have : u ≠ v := fun h => ht.1 (by rw [h])
      simp [put, this]
  | succ k ih =>
    rw [List.replicate_succ, List.cons_append, runs, ih]
    simp [put]
theorem runs_unrun (r : List Run) : (∀ a ∈ r, 1 ≤ a.2) → adj none r → runs (unrun r) = r := by
  induction r with
  | nil => intros; rfl
  | cons a r ih =>
    obtain ⟨v, n⟩ := a
    intro hp ha
    have h1 : 1 ≤ n := hp (v, n) List.mem_cons_self
    have h2 := ih (fun a h => hp a (List.mem_cons_of_mem _ h)) (adj_none ha.2)
    obtain ⟨k, hk⟩ : ∃ k : Nat, n = (k : Int) + 1 := ⟨(n - 1).toNat, by omega⟩
    have e : unrun ((v, n) :: r) = List.replicate (k + 1) v ++ unrun r := by
      have : n.toNat = k + 1 := by omega
      simp [unrun, this]
    rw [e, runs_rep _ _ (by rw [h2]; exact ha.2), h2, hk]
theorem runs_ok (r : List Run) (h : chk none 0 r = 0) : runs (unrun r) = r :=
  runs_unrun r (fun a ha => ((chk_zero r none 0 h (by omega)).1 a ha).1) (chk_adj r none 0 h)
theorem runs_repl (v n : Nat) : (runs (List.replicate n v)).length ≤ 1 := by
  cases n with
  | zero => simp [runs]
  | succ k => have := runs_rep v [] trivial k; rw [List.append_nil] at this; rw [this]; simp [runs]
theorem runs_least (r : List Run) : (runs (unrun r)).length ≤ r.length := by
  induction r with
  | nil => exact Nat.le_refl _
  | cons a r ih =>
    obtain ⟨v, n⟩ := a
    have e : unrun ((v, n) :: r) = List.replicate n.toNat v ++ unrun r := by simp [unrun]
    rw [e, ← joinR_runs]
    have h1 := joinR_len (runs (List.replicate n.toNat v)) (runs (unrun r))
    have h2 := runs_repl v n.toNat
    rw [List.length_cons]; omega
theorem runs_last (a : List Nat) (z : Nat) : ∃ R k, runs (a ++ [z]) = R ++ [(z, k)] := by
  rw [← joinR_runs]
  rcases List.eq_nil_or_concat (runs a) with h | ⟨R, ⟨u, m⟩, h⟩
  · rw [h]; exact ⟨[], 1, rfl⟩
  · rw [h, List.concat_eq_append]
    by_cases e : u = z
    · subst e
      refine ⟨R, m + 1, ?_⟩
      rw [show runs [u] = [(u, 1)] from rfl, joinR_same]
    · refine ⟨R ++ [(u, m)], 1, ?_⟩
      rw [show runs [z] = [(z, 1)] from rfl, joinR_diff _ _ _ _ _ _ e]
/-- one less, if the one ends as the other one begins -/
def less (a b : List Nat) : Nat := if a ≠ [] ∧ b ≠ [] ∧ a.getLast? = b.head? then 1 else 0
theorem joins_len (a b : List Nat) : (runs (a ++ b)).length + less a b = (runs a).length + (runs b).length := by
  rcases List.eq_nil_or_concat a with rfl | ⟨a', z, rfl⟩
  · simp [less, runs]
  · cases b with
    | nil => simp [less, runs]
    | cons x b =>
      rw [List.concat_eq_append]
      obtain ⟨R, k, h1⟩ := runs_last a' z
      obtain ⟨m, S, h2⟩ := runs_head x b
      rw [← joinR_runs, h1, h2]
      by_cases e : z = x
      · subst e
        rw [joinR_same]
        simp [less]
        omega
      · rw [joinR_diff _ _ _ _ _ _ e]
        simp [less, e]
        omega
theorem ex_runs (l : List Nat) (h : l.length ≤ 64) : ex (runs l) = l := by rw [ex_ok _ (chk_runs l h), unrun_runs]
theorem jo_ok (a b : List Run) (ha : chk none 0 a = 0) (hb : chk none 0 b = 0) : jo a b = if (unrun a ++ unrun b).length ≤ 64 then (runs (unrun a ++ unrun b), 0) else ([], 2) := by
  unfold jo fin
  rw [if_neg (by simp [ha]), if_neg (by simp [hb])]
  have e : joinR a b = runs (unrun a ++ unrun b) := by
    rw [← joinR_runs, runs_ok a ha, runs_ok b hb]
  rw [e, unrun_runs]
end Hy.Runs
