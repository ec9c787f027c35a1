/- Arguments opened: conditions. No program in sight. -/
import Derived.Test.YtolhifnlahllnaaGreatDoorQpa
import Derived.Test.YtolhifnlahllnaaGreatDoorOpx
namespace Hy
open Go Go.RowKit Go.ChangeShapes Go.WideShapes Go.ChangeAt Go.Deep Go.Joins
section
variable {H : Type} {enc : TypeId × Value → H} {P : Program} {w : World} {base : Nat} {spare : Nat → Bool} {held : Bool}
def datCnd (c : Cnd) : DataW H := .agg [.lit (.int .i64 c.1), .lit (.int .i64 c.2.1), datCel c.2.2]
def okCnd (c : Cnd) : Prop := okCel c.2.2
theorem read_cnd {t e : TypeId} {f0 f1 f2 : Field} {g0 g1 g2 : Field} (ht : P.underlying t = some (.struct #[f0, f1, f2]))
    (ho : f0.offset = 0 ∧ f1.offset = 1 ∧ f2.offset = 2) (hk : P.cellsOf f0.type = 1 ∧ P.cellsOf f1.type = 1 ∧ P.cellsOf f2.type = 3)
    (t0 : P.underlying f0.type = some (.int .i64)) (t1 : P.underlying f1.type = some (.int .i64)) (e2 : f2.type = e)
    (he : P.underlying e = some (.struct #[g0, g1, g2])) (hone : oneCellFields P #[g0, g1, g2] = true)
    (s0 : P.underlying g0.type = some (.int .i64)) (s1 : P.underlying g1.type = some (.int .u64)) (s2 : P.underlying g2.type = some .string)
    (fuel : Nat) (cs : List Value) (x : DataW H × List MemPlace) (hl : cs.length = 5) (h : DataW.trod enc P w base spare held fuel t cs = some x) :
    ∃ c : Cnd, cs = cnd5 c ∧ x.1 = datCnd c ∧ okCnd c := by
  obtain ⟨ys, n, _, hx, _, hyl, hF⟩ := DataW.trod_struct ht h
  match cs, hl, ys, hyl with
  | [c0, c1, c2, c3, c4], _, [y0, y1, y2], _ =>
    have q0 := hF 0 f0 rfl
    have q1 := hF 1 f1 rfl
    have q2 := hF 2 f2 rfl
    rw [ho.1, hk.1] at q0; rw [ho.2.1, hk.2.1] at q1; rw [ho.2.2, hk.2.2, e2] at q2
    simp only [List.drop_zero, List.drop_succ_cons, List.take_succ_cons, List.take_zero, List.getElem?_cons_zero, List.getElem?_cons_succ] at q0 q1 q2
    obtain ⟨a, ea, rfl, wa⟩ := DataW.trod_int t0 q0
    obtain ⟨b, eb, rfl, wb⟩ := DataW.trod_int t1 q1
    obtain ⟨z, ez, dz, kz⟩ := read_cel he hone s0 s1 s2 _ _ _ rfl q2
    simp only [List.cons.injEq, and_true] at ea eb ez
    obtain ⟨rfl, rfl, rfl⟩ := ez
    subst ea eb
    refine ⟨(a, b, z), rfl, ?_, kz⟩
    rw [hx]
    simp only [datCnd, List.map_cons, List.map_nil, dz]
def okCnds (l : List Cnd) : Prop := ∀ c ∈ l, c.2.2.2.1 < 18446744073709551616
theorem okCnds_of {l : List Cnd} (h : ∀ c ∈ l, okCnd c) : okCnds l := fun c hc => (h c hc).1
end
end Hy
