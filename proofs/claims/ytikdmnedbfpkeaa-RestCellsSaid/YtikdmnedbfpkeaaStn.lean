/- Stats: plain laws: the whole is what its parts are merged to. -/
import Derived.Test.YtikdmnedbfpkeaaStl
namespace Hy.Cel
theorem bad_alone {kind : Int} {l : List Cel} (h : bad kind l = 0) : ∀ c ∈ l, alone kind c = 0 := by
  induction l with
  | nil => simp
  | cons c r ih =>
    simp only [bad] at h
    split at h
    · rename_i h0
      intro e he
      rcases List.mem_cons.1 he with rfl | he
      · exact h0
      · exact ih h e he
    · rename_i h0; exact absurd h h0
theorem bad_of {kind : Int} {l : List Cel} (h : ∀ c ∈ l, alone kind c = 0) : bad kind l = 0 := by
  induction l with
  | nil => rfl
  | cons c r ih => simp only [bad]; rw [if_pos (h c (by simp))]; exact ih fun e he => h e (by simp [he])
theorem cchk_iff {kind : Int} {l : List Cel} : cchk kind l = 0 ↔ (kind = 1 ∨ kind = 2) ∧ l.length ≤ 64 ∧ ∀ c ∈ l, alone kind c = 0 := by
  unfold cchk
  split
  · rename_i h
    exact ⟨fun h' => (by cases h'), fun h' => absurd h (by omega)⟩
  · rename_i h
    split
    · rename_i h1
      exact ⟨fun h' => (by cases h'), fun h' => absurd h1 (by omega)⟩
    · rename_i h1
      exact ⟨fun h' => ⟨by omega, by omega, bad_alone h'⟩, fun h' => bad_of h'.2.2⟩
theorem cchk_ok {kind : Int} {l : List Cel} (h : cchk kind l = 0) : ∀ c ∈ l, ok c := fun c hc => alone_ok ((cchk_iff.1 h).2.2 c hc)
theorem alone_O {kind : Int} (h : kind = 1 ∨ kind = 2) : alone kind O = 0 := by
  rcases h with rfl | rfl <;> decide +kernel
theorem dense_nil {l : List Cel} (hl : ∀ c ∈ l, ok c) : (mn l).1 = 0 ↔ dense l = [] := by
  constructor
  · intro h0
    rw [List.eq_nil_iff_forall_not_mem]
    intro c hc
    unfold dense at hc
    rw [List.mem_filter] at hc
    exact ((mn_le l hl).2.1 c hc.1 (by simpa using hc.2)).1 h0
  · intro h
    refine Decidable.byContradiction fun h0 => ?_
    have : mn l ∈ dense l := by unfold dense; rw [List.mem_filter]; exact ⟨(mn_le l hl).2.2 h0, by simpa using h0⟩
    rw [h] at this; cases this
theorem sck_rawS {kind : Int} {l : List Cel} (h : cchk kind l = 0) : sck kind (rawS l) = 0 := by
  have hl := cchk_ok h
  obtain ⟨h1, h2, h3⟩ := cchk_iff.1 h
  have ha : ∀ c, (c.1 ≠ 0 → c ∈ l) → ok c → alone kind c = 0 := fun c hc ho => by
    by_cases h0 : c.1 = 0
    · rw [ho h0]; exact alone_O h1
    · exact h3 c (hc h0)
  have a1 := ha _ (mn_le l hl).2.2 (mn_le l hl).1
  have a2 := ha _ (mx_ge l hl).2.2 (mx_ge l hl).1
  obtain ⟨m1, m2⟩ := mm l hl
  have hd := dense_nil hl
  have hdl := dense_len l
  rw [rawS_mm l hl]
  unfold sck
  simp only
  rw [if_neg (by omega), if_neg (by omega), if_neg (by simp [a1]), if_neg (by simp [a2]), if_neg]
  have e0 : (((l.length : Int) - (dense l).length) == l.length) = decide (dense l = []) := by
    rw [Bool.eq_iff_iff, beq_iff_eq, decide_eq_true_iff, ← List.length_eq_zero_iff]; omega
  rw [e0]
  by_cases h0 : (mn l).1 = 0
  · obtain ⟨e1, e2⟩ := m1 h0
    rw [e1, e2, hd.1 h0]; decide +kernel
  · obtain ⟨j1, j2⟩ := m2 h0
    have : ¬ dense l = [] := fun h => h0 (hd.2 h)
    rw [j2]
    simp [h0, j1, this]
theorem dense_app (l m : List Cel) : dense (l ++ m) = dense l ++ dense m := by unfold dense; rw [List.filter_append]
theorem bothS_rawS {l m : List Cel} (hl : ∀ c ∈ l, ok c) (hm : ∀ c ∈ m, ok c) : bothS (rawS l) (rawS m) = rawS (l ++ m) := by
  rw [rawS_mm l hl, rawS_mm m hm, rawS_mm (l ++ m) (fun c hc => (List.mem_append.1 hc).elim (hl c) (hm c)), mn_app l m hl hm, mx_app l m hl hm, dense_app]
  unfold bothS
  refine Prod.ext (by simp) (Prod.ext (by simp only [List.length_append]; omega) rfl)
/-- StatsWhole -/
theorem whole {kind : Int} {l : List Cel} (h : cchk kind l = 0) (k : Nat) (hk : k ≤ l.length) :
    cchk kind (l.take k) = 0 ∧ cchk kind (l.drop k) = 0 ∧ mg kind (rawS (l.take k)) (rawS (l.drop k)) = (rawS l, 0) := by
  obtain ⟨h1, h2, h3⟩ := cchk_iff.1 h
  have c1 : cchk kind (l.take k) = 0 := cchk_iff.2 ⟨h1, by rw [List.length_take]; omega, fun c hc => h3 c (List.mem_of_mem_take hc)⟩
  have c2 : cchk kind (l.drop k) = 0 := cchk_iff.2 ⟨h1, by rw [List.length_drop]; omega, fun c hc => h3 c (List.mem_of_mem_drop hc)⟩
  refine ⟨c1, c2, ?_⟩
  unfold mg
  rw [if_neg (by simp [sck_rawS c1]), if_neg (by simp [sck_rawS c2]), if_neg, bothS_rawS (cchk_ok c1) (cchk_ok c2), List.take_append_drop]
  rw [rawS_mm _ (cchk_ok c1), rawS_mm _ (cchk_ok c2)]
  simp only [List.length_take, List.length_drop]
  omega
end Hy.Cel
