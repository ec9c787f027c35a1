/- Rows of cells that stand in a list: where they lie, what they are. No program in sight. -/
import Derived.Test.YtolhifnlahllnaaDoorClp
namespace Hy
open Go Go.RowKit
section
variable {w w' : World}
abbrev Rw := (Option Addr × Nat × Nat) × List Cel
def rw1 (x : Rw) : List Value := [.slice x.1.1 x.1.2.1 x.1.2.2]
/-- a row is read where it lies -/
def RwOk (w : World) (x : Rw) : Prop := x.2.length = x.1.2.1 ∧ x.1.2.1 ≤ x.1.2.2 ∧ (x.1.1 = none → x.1.2.1 = 0) ∧ Rd w x.1.1 (cls x.2)
/-- rows as cells -/
def rws' (L : List Rw) : List Value := L.flatMap rw1
theorem rws_len (L : List Rw) : (rws' L).length = L.length := by have := flat_length (f := rw1) (m := 1) (fun _ => rfl) L; rw [Nat.mul_one] at this; exact this
theorem rws_one (L : List Rw) : ∀ u ∈ rws' L, u.oneCell' = true := fun u hu => by
  obtain ⟨c, _, h⟩ := List.mem_flatMap.1 hu
  simp only [rw1, List.mem_cons, List.not_mem_nil, or_false] at h
  subst h; rfl
theorem Rd.rows {w : World} {A : Option Addr} {L : List Rw} (h : Rd w A (rws' L)) (k : Nat) (hk : k < L.length) :
    ∃ b o, A = some ⟨b, o, none⟩ ∧ b < w.heap.size ∧ ∀ j (hj : j < L.length), w.cell? ⟨b, o + j, none⟩ = some (.slice L[j].1.1 L[j].1.2.1 L[j].1.2.2) := by
  obtain ⟨b, o, e, hb, hc⟩ := h (by rw [rws_len]; omega)
  refine ⟨b, o, e, hb, fun j hj => ?_⟩
  have h1 := flat_get (f := rw1) (m := 1) (fun _ => rfl) L j hj 0 (by decide)
  rw [Nat.mul_one, Nat.add_zero] at h1
  exact hc j _ (h1.trans rfl)
theorem RwOk.keep {w w' : World} {x : Rw} (h : RwOk w x) (hx : Ext w w') : RwOk w' x := ⟨h.1, h.2.1, h.2.2.1, h.2.2.2.keep hx⟩
end
end Hy
