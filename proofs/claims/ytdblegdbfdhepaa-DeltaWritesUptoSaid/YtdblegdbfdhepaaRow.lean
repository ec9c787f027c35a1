/- the rows of bytes and of numbers in this program's table of types. -/
import Derived.Test.YtdblegdbfdhepaaRows
import Derived.Test.YtdblegdbfdhepaaApp
namespace Go.Proofs.Ytdblegdbfdhepaa
open Go.RowKit Hy
theorem rowU8 : RowT Try.prog 65 5 1 1 := RowT.mk' (z := .int .u8 0) Try.underlying65 (by kernel_rfl) rfl (by decide)
theorem rowU64 : RowT Try.prog 22 33 1 8 := RowT.mk' (z := .int .u64 0) Try.underlying22 (by kernel_rfl) rfl (by decide)
end Go.Proofs.Ytdblegdbfdhepaa
