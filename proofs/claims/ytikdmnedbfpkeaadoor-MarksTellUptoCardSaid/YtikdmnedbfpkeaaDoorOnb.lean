/- The document's oneByte: walk. -/
import Derived.Test.YtikdmnedbfpkeaaDoorRows
import Derived.Test.YtikdmnedbfpkeaaDoorApp
namespace Go.Proofs.YtikdmnedbfpkeaaDoor
open Go.RowKit Hy
theorem oneByte_any (n : Int) (w : World) (h0 : 0 ≤ n) (hn : n < 256) :
    Calls Tryd.prog 49 #[.int .i64 n] w fun e w' => e = .returned (.string ⟨#[UInt8.ofNat n.toNat]⟩) ∧ Ext w w' := by
  obtain ⟨m, rfl⟩ := Int.eq_ofNat_of_zero_le h0
  have hs := run_str1 (P := Tryd.prog) Tryd.underlying67 Tryd.underlying5 Tryd.underlying9 m (by omega) w
  go_enter Tryd.func49, Tryd.ntmps49
  go_wp2
  go_returns
  exact ⟨rfl, (ext_refl _).new _⟩
end Go.Proofs.YtikdmnedbfpkeaaDoor
