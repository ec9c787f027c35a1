/- Lists of cells: plain words; the slice type. -/
import Derived.Test.YtpheegfanljeeaaCef
namespace Hy.Cel
def dense (l : List Cel) : List Cel := l.filter fun c => decide (c.1 ≠ 0)
theorem dense_yes (l : List Cel) (k : Nat) (h : k < l.length) (hc : l[k].1 ≠ 0) : dense (l.take (k + 1)) = dense (l.take k) ++ [l[k]] := by
  unfold dense; rw [List.take_succ_eq_append_getElem h, List.filter_append, List.filter_cons_of_pos (by simpa using hc)]; rfl
theorem dense_no (l : List Cel) (k : Nat) (h : k < l.length) (hc : l[k].1 = 0) : dense (l.take (k + 1)) = dense (l.take k) := by
  unfold dense; rw [List.take_succ_eq_append_getElem h, List.filter_append, List.filter_cons_of_neg (by simpa using hc)]; simp only [List.filter_nil, List.append_nil]
theorem dense_len (l : List Cel) : (dense l).length ≤ l.length := List.length_filter_le _ _
end Hy.Cel
namespace Hy
def sameCells (a b : List Cel) : Bool := decide (a = b)
end Hy
namespace Go.Proofs.Ytpheegfanljeeaa
open Go.RowKit Hy
theorem rowCl : RowT Try.prog 24 37 3 32 := RowT.mk' (z := .agg #[.int .i64 0, .int .u64 0, .string .empty]) Try.underlying24 (by kernel_rfl) rfl (by decide)
end Go.Proofs.Ytpheegfanljeeaa
