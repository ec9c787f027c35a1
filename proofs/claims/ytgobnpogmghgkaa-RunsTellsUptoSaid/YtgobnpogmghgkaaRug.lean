/- Runs: the document's RunsOf: walk. -/
import Derived.Test.YtgobnpogmghgkaaRows
import Derived.Test.YtgobnpogmghgkaaRuc
import Derived.Test.YtgobnpogmghgkaaOws
namespace Go.Proofs.Ytgobnpogmghgkaa
open Go.RowKit Hy
theorem rowRn : RowT Try.prog 37 54 2 16 := RowT.mk' (z := .agg #[.int .u64 0, .int .i64 0]) Try.underlying37 (by kernel_rfl) rfl (by decide)
end Go.Proofs.Ytgobnpogmghgkaa
