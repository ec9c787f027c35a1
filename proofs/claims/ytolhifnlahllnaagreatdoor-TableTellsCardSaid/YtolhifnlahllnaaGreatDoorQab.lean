/- Conditions: the document's condSize. -/
import Derived.Test.YtolhifnlahllnaaGreatDoorNck
import Derived.Test.YtolhifnlahllnaaGreatDoorQpa
namespace Go.Proofs.YtolhifnlahllnaaGreatDoor
open Go.RowKit Hy
/-- the document's: -1: there is no such op -/
def csz (op : Int) : Int := if op < 1 ∨ 7 < op then -1 else (Cnd.sz op : Nat)
theorem condSize_any (op : Int) (w : World) : Calls Tryz.prog 84 #[.int .i64 op] w fun e w' => e = .returned (.int .i64 (csz op)) ∧ w = w' := by
  go_enter Tryz.func84, Tryz.ntmps84
  go_wp2
  all_goals go_returns
  all_goals refine ⟨ret_int ?_, rfl⟩
  all_goals (unfold csz Cnd.sz; (repeat' split) <;> simp_all <;> omega)
end Go.Proofs.YtolhifnlahllnaaGreatDoor
