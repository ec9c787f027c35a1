/- the rows of bytes and of numbers in this program's table of types. -/
import Derived.Test.YtpheegfanljeeaaRows
import Derived.Test.YtpheegfanljeeaaApp
namespace Go.Proofs.Ytpheegfanljeeaa
open Go.RowKit Hy
theorem rowU8 : RowT Try.prog 147 5 1 1 := RowT.mk' (z := .int .u8 0) Try.underlying147 (by kernel_rfl) rfl (by decide)
theorem rowU64 : RowT Try.prog 56 35 1 8 := RowT.mk' (z := .int .u64 0) Try.underlying56 (by kernel_rfl) rfl (by decide)
end Go.Proofs.Ytpheegfanljeeaa
