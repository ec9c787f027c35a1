/- Cells: Alone, CellCheck: walks. -/
import Derived.Test.YtolhifnlahllnaaGreatDoorCed
import Derived.Test.YtolhifnlahllnaaGreatDoorAlo
import Derived.Laws.Closers25b
namespace Go.Proofs.YtolhifnlahllnaaGreatDoor
open Go.RowKit Hy
theorem cellCheck_any (kind : Int) (c : Cel) (w : World) :
    Calls Tryz.prog 71 #[.int .i64 kind, celV c] w fun e w' => e = .returned (.int .i64 (Cel.alone kind c : Nat)) ∧ Ext w w' := by
  obtain ⟨k, n, s⟩ := c
  go_enter Tryz.func71, Tryz.ntmps71
  go_wp2
  all_goals go_returns
  all_goals refine ⟨ret_int ?_, Ext.new (ext_refl w) _⟩
  all_goals (try simp only [bne_iff_ne, ne_eq, bne_eq_false_iff_eq] at *)
  all_goals (unfold Cel.alone; simp only; repeat' split)
  all_goals omega
end Go.Proofs.YtolhifnlahllnaaGreatDoor
