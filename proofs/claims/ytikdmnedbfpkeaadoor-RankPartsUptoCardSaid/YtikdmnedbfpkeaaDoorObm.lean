/- Marks that come in: opened. No program in sight. -/
import Derived.Test.YtikdmnedbfpkeaaDoorOls
import Derived.Test.YtikdmnedbfpkeaaDoorWof
namespace Hy
open Go Go.RowKit Go.ChangeShapes Go.WideShapes Go.ChangeAt Go.Deep Go.Joins
section
variable {H : Type} {enc : TypeId × Value → H} {P : Program} {w : World} {base : Nat} {spare : Nat → Bool} {held : Bool}
def mk1 (b : Bool) : List Value := [.bool b]
theorem mk1_bls (l : List Bool) : l.flatMap mk1 = bls l := by
  unfold bls
  induction l with
  | nil => rfl
  | cons b l ih => rw [List.flatMap_cons, ih]; rfl
def datMk (b : Bool) : DataW H := .lit (.bool b)
theorem read_mk {e : TypeId} (he : P.underlying e = some .bool) (fuel : Nat) (cs : List Value) (x : DataW H × List MemPlace) (hl : cs.length = 1) (h : DataW.trod enc P w base spare held fuel e cs = some x) :
    ∃ b : Bool, cs = mk1 b ∧ x.1 = datMk b ∧ True := by
  obtain ⟨b, rfl, rfl⟩ := DataW.trod_bool he h
  exact ⟨b, rfl, rfl, trivial⟩
end
end Hy
