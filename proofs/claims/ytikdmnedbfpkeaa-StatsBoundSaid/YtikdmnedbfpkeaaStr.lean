/- Stats: plain law: each cell that is there lies between least and most. -/
import Derived.Test.YtikdmnedbfpkeaaStq
namespace Hy.Cel
/-- StatsBound -/
theorem bound {kind : Int} {l : List Cel} (h : cchk kind l = 0) :
    sck kind (rawS l) = 0 ∧ (rawS l).1 = l.length ∧ (rawS l).2.1 = (l.length : Int) - (dense l).length ∧ (∀ c ∈ l, c.1 ≠ 0 → less c (rawS l).2.2.1 = false ∧ less (rawS l).2.2.2 c = false) ∧
      ((dense l).any fun c => decide (c = (rawS l).2.2.1)) = decide (0 < (dense l).length) ∧ ((dense l).any fun c => decide (c = (rawS l).2.2.2)) = decide (0 < (dense l).length) := by
  have hl := cchk_ok h
  refine ⟨sck_rawS h, ?_⟩
  rw [rawS_mm l hl]
  obtain ⟨m1, m2⟩ := mm l hl
  have hd := dense_nil hl
  obtain ⟨a1, a2, a3⟩ := mn_le l hl
  obtain ⟨b1, b2, b3⟩ := mx_ge l hl
  refine ⟨rfl, rfl, fun c hc h0 => ⟨(a2 c hc h0).2, (b2 c hc h0).2⟩, ?_, ?_⟩
  all_goals
    by_cases h0 : (mn l).1 = 0
    · rw [hd.1 h0]; rfl
    · have hne : 0 < (dense l).length := List.length_pos_iff.2 fun h' => h0 (hd.2 h')
      have e1 : mn l ∈ dense l := by unfold dense; rw [List.mem_filter]; exact ⟨a3 h0, by simpa using h0⟩
      have e2 : mx l ∈ dense l := by unfold dense; rw [List.mem_filter]; exact ⟨b3 (m2 h0).1, by simpa using (m2 h0).1⟩
      rw [decide_eq_true hne]
      first
        | exact List.any_eq_true.2 ⟨_, e1, decide_eq_true rfl⟩
        | exact List.any_eq_true.2 ⟨_, e2, decide_eq_true rfl⟩
end Hy.Cel
