/- what the bulk of a list of texts says of them. -/
import Derived.Test.YtpheegfanljeeaaUpt
import Derived.Test.YtpheegfanljeeaaOtx
namespace Hy
open Go Go.RowKit Go.Proofs.Ytpheegfanljeeaa
theorem bulk_txt {H : Type} (l : List (List UInt8)) : ∀ x ∈ l, x.length ≤ Rows.uptoBulkAll (l.map fun b => DataW.lit (H := H) (.string b)) := by
  induction l with
  | nil => simp
  | cons y l ih =>
    intro x hx
    simp only [List.map_cons, Rows.uptoBulkAll, Rows.uptoBulk]
    rcases List.mem_cons.1 hx with rfl | hx
    · omega
    · have := ih x hx; omega
theorem bulk_texts {H : Type} {d : DataW H} {l : List (List UInt8)} (h : IsTexts d l) : l.length ≤ Rows.uptoBulk d ∧ ∀ x ∈ l, x.length ≤ Rows.uptoBulk d := by
  rcases h with ⟨rfl, rfl⟩ | ⟨sp, rfl⟩
  · exact ⟨Nat.zero_le _, by simp⟩
  · have h1 := bulk_all_len (l.map fun b => DataW.lit (H := H) (.string b))
    have h2 := bulk_txt (H := H) l
    simp only [Rows.uptoBulk]
    rw [List.length_map] at h1
    exact ⟨by omega, fun x hx => by have := h2 x hx; omega⟩
end Hy
