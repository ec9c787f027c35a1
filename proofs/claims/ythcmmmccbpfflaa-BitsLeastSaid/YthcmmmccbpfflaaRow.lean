/- the rows of bytes and of numbers in this program's table of types. -/
import Derived.Test.YthcmmmccbpfflaaRows
import Derived.Test.YthcmmmccbpfflaaApp
namespace Go.Proofs.Ythcmmmccbpfflaa
open Go.RowKit Hy
theorem rowU8 : RowT Try.prog 51 5 1 1 := RowT.mk' (z := .int .u8 0) Try.underlying51 (by kernel_rfl) rfl (by decide)
theorem rowU64 : RowT Try.prog 32 22 1 8 := RowT.mk' (z := .int .u64 0) Try.underlying32 (by kernel_rfl) rfl (by decide)
end Go.Proofs.Ythcmmmccbpfflaa
