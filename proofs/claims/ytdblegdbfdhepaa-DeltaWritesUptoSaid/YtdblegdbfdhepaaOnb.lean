/- The document's oneByte: walk. -/
import Derived.Test.YtdblegdbfdhepaaRows
import Derived.Test.YtdblegdbfdhepaaApp
namespace Go.Proofs.Ytdblegdbfdhepaa
open Go.RowKit Hy
theorem oneByte_any (n : Int) (w : World) (h0 : 0 ≤ n) (hn : n < 256) :
    Calls Try.prog 70 #[.int .i64 n] w fun e w' => e = .returned (.string ⟨#[UInt8.ofNat n.toNat]⟩) ∧ Ext w w' := by
  obtain ⟨m, rfl⟩ := Int.eq_ofNat_of_zero_le h0
  have hs := run_str1 (P := Try.prog) Try.underlying65 Try.underlying5 Try.underlying9 m (by omega) w
  go_enter Try.func70, Try.ntmps70
  go_wp2
  go_returns
  exact ⟨rfl, (ext_refl _).new _⟩
end Go.Proofs.Ytdblegdbfdhepaa
