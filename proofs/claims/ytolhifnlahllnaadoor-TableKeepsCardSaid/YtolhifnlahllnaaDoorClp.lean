/- Cells: plain words: as values, as cells; what is wrong with one, with a column. No program in sight. -/
import Derived.Test.YtolhifnlahllnaaDoorCel
import Derived.Test.YtolhifnlahllnaaDoorApp
import Derived.Laws.Closers25b
namespace Hy
open Go
abbrev celV (c : Cel) : Value := .agg #[.int .i64 c.1, .int .u64 (c.2.1 : Nat), .string c.2.2]
abbrev celA (c : Cel) : Array Value := #[.int .i64 c.1, .int .u64 (c.2.1 : Nat), .string c.2.2]
end Hy
namespace Hy.Cel
/-- what is wrong with a cell of a kind -/
@[irreducible] def alone (kind : Int) (c : Cel) : Nat :=
  if c.1 ≠ 0 ∧ c.1 ≠ kind then 7 else if (c.1 ≠ 1 ∧ c.2.1 ≠ 0) ∨ (c.1 ≠ 2 ∧ c.2.2.size ≠ 0) then 1 else if 16 < c.2.2.size then 2 else 0
end Hy.Cel
namespace Hy.Cel
theorem emptyB (s : ByteArray) : s.toList.isEmpty = decide (s.size = 0) := by
  have h := Go.toList_nil_iff_emptyBytes s
  by_cases e : s.toList = []
  · have := h.1 e
    subst this
    rw [e]; rfl
  · have h2 : ¬ s.size = 0 := fun h0 => e (h.2 (by apply ByteArray.ext; apply Array.eq_empty_of_size_eq_zero; exact h0))
    simp [h2, e]
end Hy.Cel
namespace Hy
open Go Go.RowKit
def cel3 (c : Cel) : List Value := [.int .i64 c.1, .int .u64 (c.2.1 : Nat), .string c.2.2]
def cls (l : List Cel) : List Value := l.flatMap cel3
theorem cls_len (l : List Cel) : (cls l).length = l.length * 3 := flat_length (f := cel3) (m := 3) (fun _ => rfl) l
theorem cls_one (l : List Cel) : ∀ u ∈ cls l, u.oneCell' = true := fun u hu => by
  obtain ⟨a, _, h⟩ := List.mem_flatMap.1 hu
  simp only [cel3, List.mem_cons, List.not_mem_nil, or_false] at h
  rcases h with rfl | rfl | rfl <;> rfl
theorem cls_app (l m : List Cel) : cls (l ++ m) = cls l ++ cls m := by simp [cls]
theorem Rd.cels {w : World} {A : Option Addr} {l : List Cel} (h : Rd w A (cls l)) (k : Nat) (hk : k < l.length) :
    ∃ b o, A = some ⟨b, o, none⟩ ∧ b < w.heap.size ∧ ∀ j (hj : j < l.length), w.cell? ⟨b, o + j * 3, none⟩ = some (.int .i64 l[j].1) ∧ w.cell? ⟨b, o + j * 3 + 1, none⟩ = some (.int .u64 (l[j].2.1 : Nat)) ∧ w.cell? ⟨b, o + j * 3 + 2, none⟩ = some (.string l[j].2.2) := by
  obtain ⟨b, o, e, hb, hc⟩ := h (by rw [cls_len]; omega)
  refine ⟨b, o, e, hb, fun j hj => ⟨?_, ?_, ?_⟩⟩
  · exact hc _ _ (flat_get (f := cel3) (m := 3) (fun _ => rfl) l j hj 0 (by decide))
  · rw [Nat.add_assoc]; exact hc _ _ (flat_get (f := cel3) (m := 3) (fun _ => rfl) l j hj 1 (by decide))
  · rw [Nat.add_assoc]; exact hc _ _ (flat_get (f := cel3) (m := 3) (fun _ => rfl) l j hj 2 (by decide))
namespace Cel
def bad (kind : Int) : List Cel → Nat
  | [] => 0
  | c :: r => if alone kind c = 0 then bad kind r else alone kind c
@[irreducible] def cchk (kind : Int) (l : List Cel) : Nat := if kind ≠ 1 ∧ kind ≠ 2 then 7 else if 64 < l.length then 2 else bad kind l
theorem alone_le (kind : Int) (c : Cel) : alone kind c ≤ 7 := by unfold alone; (repeat' split) <;> omega
theorem bad_le (kind : Int) (l : List Cel) : bad kind l ≤ 7 := by
  induction l with
  | nil => simp [bad]
  | cons c r ih => simp only [bad]; split; exact ih; exact alone_le _ _
theorem cchk_le (kind : Int) (l : List Cel) : cchk kind l ≤ 7 := by unfold cchk; (repeat' split) <;> first | omega | exact bad_le _ _
theorem bad_at {kind : Int} {l : List Cel} {k : Nat} (h : k < l.length) (ha : alone kind l[k] ≠ 0) : bad kind (l.drop k) = alone kind l[k] := by
  rw [List.drop_eq_getElem_cons h]; simp [bad, ha]
theorem bad_next {kind : Int} {l : List Cel} {k : Nat} (h : k < l.length) (ha : alone kind l[k] = 0) : bad kind (l.drop k) = bad kind (l.drop (k + 1)) := by
  rw [List.drop_eq_getElem_cons h]; simp [bad, ha]
end Cel
end Hy
