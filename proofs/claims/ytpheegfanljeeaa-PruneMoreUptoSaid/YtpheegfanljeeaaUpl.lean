/- what the bulk of a list of records says. -/
import Derived.Test.YtpheegfanljeeaaUpt
import Derived.Test.YtpheegfanljeeaaOls
namespace Hy
open Go Go.RowKit Go.Proofs.Ytpheegfanljeeaa
theorem bulk_list {H : Type} {d : DataW H} {D : List (DataW H)} (h : IsList d D) : D.length ≤ Rows.uptoBulk d := by
  rcases h with ⟨rfl, rfl⟩ | ⟨sp, rfl⟩
  · exact Nat.zero_le _
  · have := bulk_all_len D
    simp only [Rows.uptoBulk]
    omega
end Hy
