/- Kinds of cells: Kind: walk. -/
import Derived.Test.YtolhifnlahllnaaGreatDoorGen
import Derived.Test.YtolhifnlahllnaaGreatDoorProg
namespace Go.Proofs.YtolhifnlahllnaaGreatDoor
open Go.RowKit Hy
theorem kind_any (k : Int) (w : World) : Calls Tryz.prog 88 #[.int .i64 k] w fun e w' => e = .returned (.bool (decide (k = 1 ∨ k = 2))) ∧ w = w' := by
  by_cases h1 : k = 1
  · subst h1
    go_enter Tryz.func88, Tryz.ntmps88
    go_wp2
    go_returns
    exact ⟨rfl, rfl⟩
  · have e1 : (k == 1) = false := by simpa using h1
    by_cases h2 : k = 2
    · subst h2
      go_enter Tryz.func88, Tryz.ntmps88
      go_wp2
      go_returns
      exact ⟨rfl, rfl⟩
    · have e2 : (k == 2) = false := by simpa using h2
      have e3 : decide (k = 1 ∨ k = 2) = false := by simp [h1, h2]
      rw [e3]
      go_enter Tryz.func88, Tryz.ntmps88
      go_wp2
      go_returns
      exact ⟨rfl, rfl⟩
end Go.Proofs.YtolhifnlahllnaaGreatDoor
