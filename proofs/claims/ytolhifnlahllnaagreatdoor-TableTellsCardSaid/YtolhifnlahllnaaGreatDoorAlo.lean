/- Cells: Alone: walk. -/
import Derived.Test.YtolhifnlahllnaaGreatDoorClx
import Derived.Test.YtolhifnlahllnaaGreatDoorProg
namespace Go.Proofs.YtolhifnlahllnaaGreatDoor
open Go.RowKit Hy
theorem alone_any (kind : Int) (c : Cel) (w : World) :
    Calls Tryz.prog 62 #[.int .i64 kind, celV c] w fun e w' => e = .returned (.int .i64 (Cel.alone kind c : Nat)) ∧ Ext w w' := by
  obtain ⟨k, n, s⟩ := c
  go_enter Tryz.func62, Tryz.ntmps62
  go_wp2
  all_goals go_returns
  all_goals refine ⟨ret_int ?_, Ext.new (ext_refl w) _⟩
  all_goals simp only [Cel.emptyB, bne_iff_ne, ne_eq, bne_eq_false_iff_eq, Bool.not_eq_true', Bool.not_eq_false', decide_eq_true_eq, decide_eq_false_iff_not] at *
  all_goals (unfold Cel.alone; simp only; repeat' split)
  all_goals omega
end Go.Proofs.YtolhifnlahllnaaGreatDoor
