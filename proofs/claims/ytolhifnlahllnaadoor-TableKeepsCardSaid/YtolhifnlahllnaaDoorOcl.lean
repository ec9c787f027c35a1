/- Arguments opened: cells. No program in sight. -/
import Derived.Test.YtolhifnlahllnaaDoorOls
import Derived.Test.YtolhifnlahllnaaDoorClp
namespace Hy
open Go Go.RowKit Go.ChangeShapes Go.WideShapes Go.ChangeAt Go.Deep Go.Joins
section
variable {H : Type} {enc : TypeId × Value → H} {P : Program} {w : World} {base : Nat} {spare : Nat → Bool} {held : Bool}
def datCel (c : Cel) : DataW H := .agg [.lit (.int .i64 c.1), .lit (.int .u64 (c.2.1 : Int)), .lit (.string c.2.2.data.toList)]
def okCel (c : Cel) : Prop := c.2.1 < 18446744073709551616 ∧ c.2.2.size ≤ maxLen
abbrev cel3' (c : Cel) : List Value := [.int .i64 c.1, .int .u64 (c.2.1 : Nat), .string c.2.2]
theorem read_cel {e : TypeId} {f0 f1 f2 : Field} (he : P.underlying e = some (.struct #[f0, f1, f2])) (hone : oneCellFields P #[f0, f1, f2] = true)
    (t0 : P.underlying f0.type = some (.int .i64)) (t1 : P.underlying f1.type = some (.int .u64)) (t2 : P.underlying f2.type = some .string)
    (fuel : Nat) (cs : List Value) (x : DataW H × List MemPlace) (hl : cs.length = 3) (h : DataW.trod enc P w base spare held fuel e cs = some x) :
    ∃ c : Cel, cs = cel3' c ∧ x.1 = datCel c ∧ okCel c := by
  obtain ⟨ys, n, _, hx, _, hyl, hf⟩ := DataW.trod_struct he h
  obtain ⟨o0, k0⟩ := hone_of hone 0 f0 rfl
  obtain ⟨o1, k1⟩ := hone_of hone 1 f1 rfl
  obtain ⟨o2, k2⟩ := hone_of hone 2 f2 rfl
  match cs, hl, ys, hyl with
  | [c0, c1, c2], _, [y0, y1, y2], _ =>
    have g0 := hf 0 f0 rfl
    have g1 := hf 1 f1 rfl
    have g2 := hf 2 f2 rfl
    rw [o0, k0] at g0; rw [o1, k1] at g1; rw [o2, k2] at g2
    simp only [List.drop_zero, List.drop_succ_cons, List.take_succ_cons, List.take_zero, List.getElem?_cons_zero, List.getElem?_cons_succ] at g0 g1 g2
    obtain ⟨a, ea, rfl, wa⟩ := DataW.trod_int t0 g0
    obtain ⟨b, eb, rfl, wb⟩ := DataW.trod_int t1 g1
    obtain ⟨s, es, rfl, ws⟩ := DataW.trod_string t2 g2
    simp only [List.cons.injEq, and_true] at ea eb es
    subst ea eb es
    have bb := bounds_u64 wb
    refine ⟨(a, b.toNat, s), ?_, ?_, by simp only; omega, ws⟩
    · show _ = [_, Value.int .u64 ((b.toNat : Nat) : Int), _]
      rw [show ((b.toNat : Nat) : Int) = b from by omega]
    · rw [hx]; simp only [datCel, List.map_cons, List.map_nil]; rw [show ((b.toNat : Nat) : Int) = b from by omega]
theorem open_cel {e : TypeId} {f0 f1 f2 : Field} (he : P.underlying e = some (.struct #[f0, f1, f2])) (hone : oneCellFields P #[f0, f1, f2] = true) (hC : P.cellsOf e = 3)
    (t0 : P.underlying f0.type = some (.int .i64)) (t1 : P.underlying f1.type = some (.int .u64)) (t2 : P.underlying f2.type = some .string)
    {r : Reach} {b0 : Nat} {v : Value} {d : DataW H} {ps : List MemPlace} (hv : Value.okWide P w r b0 e v) (h : DataW.Trod enc P w base spare held e v d ps) :
    ∃ c : Cel, v = .agg #[.int .i64 c.1, .int .u64 (c.2.1 : Nat), .string c.2.2] ∧ d = datCel c ∧ okCel c := by
  obtain ⟨cs, rfl, hsz⟩ := okWide_struct he hv
  obtain ⟨fuel, hf⟩ := h
  obtain ⟨c, hcs, hx, hn⟩ := read_cel he hone t0 t1 t2 _ _ _ (by simp only [Value.cells]; rw [Array.length_toList, hsz, hC]) hf
  simp only [Value.cells] at hcs
  refine ⟨c, ?_, hx, hn⟩
  rw [← Array.toArray_toList (xs := cs), hcs]
theorem cel_weight {e : TypeId} {f0 f1 f2 : Field} (he : P.underlying e = some (.struct #[f0, f1, f2])) (c : Cel) : c.2.2.size ∈ (datCel (H := H) c).weights P e := by
  simp [datCel, DataW.weights, he, DataW.weightsEach]
end
end Hy
