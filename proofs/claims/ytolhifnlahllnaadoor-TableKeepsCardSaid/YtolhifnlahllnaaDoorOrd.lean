/- Arguments opened: a list that stands in a list or a record. No program in sight. -/
import Derived.Test.YtolhifnlahllnaaDoorOls
namespace Hy
open Go Go.RowKit Go.ChangeShapes Go.WideShapes Go.ChangeAt Go.Deep Go.Joins
section
variable {H : Type} {enc : TypeId × Value → H} {P : Program} {w : World} {base : Nat} {spare : Nat → Bool} {held : Bool}
/-- a list that stands in a list -/
theorem read_list {α : Type} {f : α → List Value} {m : Nat} (hf : ∀ x, (f x).length = m) (hm0 : 0 < m) {g : α → DataW H} {ok : α → Prop} {t e : TypeId} (ht : P.underlying t = some (.slice e)) (hC : P.cellsOf e = m)
    (hread : ∀ (fuel : Nat) (cs : List Value) (x : DataW H × List MemPlace), cs.length = m → DataW.trod enc P w base spare held fuel e cs = some x → ∃ c, cs = f c ∧ x.1 = g c ∧ ok c)
    {fuel : Nat} {cs : List Value} {x : DataW H × List MemPlace} (h : DataW.trod enc P w base spare held fuel t cs = some x) :
    ∃ (A : Option Addr) (len cap : Nat) (l : List α), cs = [.slice A len cap] ∧ l.length = len ∧ len ≤ cap ∧ cap ≤ maxLen ∧ (A = none → len = 0) ∧ Rd w A (l.flatMap f) ∧ (∀ c ∈ l, ok c) ∧ IsList x.1 (l.map g) := by
  rcases open_slice ht h with ⟨hcs, hx⟩ | ⟨a, len0, cap0, k, n, D, Pl, hcs, hb, hl, hm, hmm, hx, hi⟩
  · subst hcs
    rw [hx]
    exact ⟨none, 0, 0, [], rfl, rfl, Nat.le_refl _, Nat.zero_le _, fun _ => rfl, fun hp => absurd hp (by simp), fun c hc => by simp at hc, .inl ⟨rfl, rfl⟩⟩
  · subst hcs
    have hlm : len0 ≤ k := by rw [hmm]; split <;> omega
    obtain ⟨l, hll, hp⟩ := list_of (α := α) len0 (fun i c => (∀ j u, (f c)[j]? = some u → w.cell? (a.add (i * m + j)) = some u) ∧ ok c ∧ D i = g c) (fun i hi' => by
      obtain ⟨cs', hc, htr⟩ := hi i (by omega)
      rw [hC] at hc
      obtain ⟨_, hcl, hat⟩ := World.cells?_some hc
      obtain ⟨c, rfl, hd, hok⟩ := hread _ _ _ hcl htr
      refine ⟨c, fun j u hu => ?_, hok, hd⟩
      have hj : j < m := by
        have := (List.getElem?_eq_some_iff.1 hu).1
        rw [hf] at this; exact this
      have h1 := hat j hj
      rw [Go.Deep.add_add] at h1
      rw [h1]; exact hu)
    refine ⟨some a, len0, cap0, l, rfl, hll, hl, hm, (fun h => by cases h), fun hpos => ?_, fun c hc => ?_, .inr ⟨(List.range (k - len0)).map fun j => D (len0 + j), ?_⟩⟩
    · have hl0 : 0 < l.length := by
        rw [flat_length hf] at hpos
        rcases Nat.eq_zero_or_pos l.length with h | h
        · rw [h, Nat.zero_mul] at hpos; cases hpos
        · exact h
      obtain ⟨u0, hu0⟩ : ∃ u, (f l[0])[0]? = some u := ⟨(f l[0])[0]'(by rw [hf]; exact hm0), List.getElem?_eq_getElem _⟩
      have h0 := (hp 0 hl0).1 0 _ hu0
      have hsp := spot_none h0 (by simp)
      refine ⟨a.block, a.off, ?_, ?_, fun j u hu => ?_⟩
      · obtain ⟨b, o, sp⟩ := a
        simp only at hsp
        subst hsp; rfl
      · have := block_lt_of_cell h0
        rw [add_mk a hsp] at this; exact this
      · have hj := (List.getElem?_eq_some_iff.1 hu).1
        rw [flat_length hf] at hj
        have hq : j / m < l.length := Nat.div_lt_of_lt_mul (by rw [Nat.mul_comm]; exact hj)
        have e : j = j / m * m + j % m := by rw [Nat.mul_comm]; exact (Nat.div_add_mod j m).symm
        rw [e, flat_get hf l (j / m) hq (j % m) (Nat.mod_lt _ hm0)] at hu
        have h1 := (hp (j / m) hq).1 (j % m) u hu
        rw [← e, add_mk a hsp] at h1
        exact h1
    · obtain ⟨i, hi', rfl⟩ := List.getElem_of_mem hc
      exact (hp i hi').2.1
    · rw [hx]
      show DataW.slice _ _ = DataW.slice _ _
      congr 1
      apply List.ext_getElem (by simp [hll])
      intro i h1 h2
      simp only [List.getElem_map, List.getElem_range]
      exact (hp i (by simpa using h2)).2.2
end
end Hy
