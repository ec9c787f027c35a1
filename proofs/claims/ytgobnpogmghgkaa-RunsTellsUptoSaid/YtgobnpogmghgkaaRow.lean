/- the rows of bytes and of numbers in this program's table of types. -/
import Derived.Test.YtgobnpogmghgkaaRows
import Derived.Test.YtgobnpogmghgkaaApp
namespace Go.Proofs.Ytgobnpogmghgkaa
open Go.RowKit Hy
theorem rowU8 : RowT Try.prog 71 5 1 1 := RowT.mk' (z := .int .u8 0) Try.underlying71 (by kernel_rfl) rfl (by decide)
theorem rowU64 : RowT Try.prog 36 46 1 8 := RowT.mk' (z := .int .u64 0) Try.underlying36 (by kernel_rfl) rfl (by decide)
end Go.Proofs.Ytgobnpogmghgkaa
