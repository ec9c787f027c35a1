/- what the bulk of the arguments says of them. -/
import Derived.Test.YtpheegfanljeeaaRows
import Derived.Test.YtpheegfanljeeaaOpn
namespace Hy
open Go Go.RowKit Go.Proofs.Ytpheegfanljeeaa
theorem bulk_all_len {H : Type} (l : List (DataW H)) : l.length ≤ Rows.uptoBulkAll l := by
  induction l with
  | nil => exact Nat.zero_le _
  | cons d r ih =>
    have : 1 ≤ Rows.uptoBulk d := by
      unfold Rows.uptoBulk
      split <;> omega
    simp only [List.length_cons, Rows.uptoBulkAll]; omega
theorem bulk_nums {H : Type} {d : DataW H} {l : List Nat} (h : IsNums d l) : l.length ≤ Rows.uptoBulk d := by
  rcases h with ⟨rfl, rfl⟩ | ⟨sp, rfl⟩
  · exact Nat.zero_le _
  · have := bulk_all_len (l.map fun n : Nat => DataW.lit (H := H) (.int .u64 (n : Int)))
    simp only [Rows.uptoBulk]
    rw [List.length_map] at this
    omega
end Hy
