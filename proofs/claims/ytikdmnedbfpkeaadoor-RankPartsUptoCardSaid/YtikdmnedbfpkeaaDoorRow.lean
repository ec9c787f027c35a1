/- the rows of bytes and of numbers in this program's table of types. -/
import Derived.Test.YtikdmnedbfpkeaaDoorRows
import Derived.Test.YtikdmnedbfpkeaaDoorApp
namespace Go.Proofs.YtikdmnedbfpkeaaDoor
open Go.RowKit Hy
theorem rowU8 : RowT Tryd.prog 67 5 1 1 := RowT.mk' (z := .int .u8 0) Tryd.underlying67 (by kernel_rfl) rfl (by decide)
theorem rowU64 : RowT Tryd.prog 41 49 1 8 := RowT.mk' (z := .int .u64 0) Tryd.underlying41 (by kernel_rfl) rfl (by decide)
end Go.Proofs.YtikdmnedbfpkeaaDoor
