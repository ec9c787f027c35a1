/- Cells that laws make: cNum, cells: walks. -/
import Derived.Test.YtpheegfanljeeaaCef
namespace Go.Proofs.Ytpheegfanljeeaa
open Go.RowKit Hy
theorem cNum_any (n : Int) (w : World) : Calls Try.prog 44 #[.int .u64 n] w fun e w' => e = .returned (.agg #[.int .i64 1, .int .u64 n, .string .empty]) ∧ Ext w w' := by
  go_enter Try.func44, Try.ntmps44
  go_wp2
  go_returns
  exact ⟨rfl, Ext.new (ext_refl _) _⟩
theorem cells_any (A : Option Addr) (n c : Nat) (w : World) : Calls Try.prog 45 #[.slice A n c] w fun e w' => e = .returned (.slice A n c) ∧ w = w' := by
  go_enter Try.func45, Try.ntmps45
  go_wp2
  go_returns
  exact ⟨rfl, rfl⟩
end Go.Proofs.Ytpheegfanljeeaa
