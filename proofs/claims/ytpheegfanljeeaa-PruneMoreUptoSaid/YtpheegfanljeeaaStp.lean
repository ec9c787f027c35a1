/- Stats: what is known, by least and most. No program in sight. -/
import Derived.Test.YtpheegfanljeeaaStd
namespace Hy.Cel
theorem mm (l : List Cel) (hl : ∀ c ∈ l, ok c) : ((mn l).1 = 0 → mn l = O ∧ mx l = O) ∧ ((mn l).1 ≠ 0 → (mx l).1 ≠ 0 ∧ less (mx l) (mn l) = false) := by
  obtain ⟨a1, a2, a3⟩ := mn_le l hl
  obtain ⟨b1, b2, b3⟩ := mx_ge l hl
  refine ⟨fun h => ⟨a1 h, ?_⟩, fun h => b2 _ (a3 h) h⟩
  by_cases h' : (mx l).1 = 0
  · exact b1 h'
  · exact absurd h (a2 _ (b3 h') h').1
theorem dense_snoc (l : List Cel) (c : Cel) : dense (l ++ [c]) = if c.1 ≠ 0 then dense l ++ [c] else dense l := by
  unfold dense
  rw [List.filter_append]
  split
  · rename_i h; rw [List.filter_cons_of_pos (by simpa using h)]; rfl
  · rename_i h; rw [List.filter_cons_of_neg (by simpa using h)]; simp only [List.filter_nil, List.append_nil]
theorem rawS_mm (l : List Cel) (hl : ∀ c ∈ l, ok c) : rawS l = ((l.length : Int), (l.length : Int) - (dense l).length, mn l, mx l) := by
  induction l using snoc_ind with
  | h0 => rw [rawS_nil]; rfl
  | h1 l c ih =>
    have hl' : ∀ c ∈ l, ok c := fun e he => hl e (by simp [he])
    have hc := hl c (by simp)
    obtain ⟨m1, m2⟩ := mm l hl'
    have hi := (mn_le l hl').1
    have hx := (mx_ge l hl').1
    rw [rawS_snoc, ih hl', mn_snoc, mx_snoc, dense_snoc]
    generalize mn l = m at *
    generalize mx l = x at *
    generalize dense l = d at *
    unfold addS
    simp only [List.length_append, List.length_cons, List.length_nil]
    by_cases h0 : c.1 = 0
    · have : c = O := hc h0
      subst this
      rw [if_pos h0, if_neg (by simp), minC_O' hi, maxC_O' hx]
      refine Prod.ext (by simp) (Prod.ext ?_ rfl)
      simp only; omega
    · rw [if_neg h0, if_pos h0]
      have e1 : ((l.length + (0 + 1) : Nat) : Int) = (l.length : Int) + 1 := by omega
      have e2 : ((l.length : Int) + 1 - (d ++ [c]).length) = (l.length : Int) - d.length := by simp only [List.length_append, List.length_cons, List.length_nil]; omega
      rw [e1, e2]
      by_cases h1 : m.1 = 0
      · obtain ⟨rfl, rfl⟩ := m1 h1
        rw [if_pos h1, minC_O, maxC_O hc]
      · rw [if_neg h1]
        obtain ⟨j1, j2⟩ := m2 h1
        unfold minC maxC
        cases h2 : less c m with
        | true =>
          rw [if_pos rfl, if_pos (.inr ⟨h0, rfl⟩), if_neg (by rw [le_trans' (less_asym h2) j2]; simp)]
        | false =>
          have q : ¬ (m.1 = 0 ∨ c.1 ≠ 0 ∧ false = true) := by simp [h1]
          simp only [if_neg q]
          cases h3 : less x c <;> simp
end Hy.Cel
