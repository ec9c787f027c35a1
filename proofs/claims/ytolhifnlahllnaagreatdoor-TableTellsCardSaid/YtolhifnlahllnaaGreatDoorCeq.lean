/- Two cells compared. -/
import Derived.Test.YtolhifnlahllnaaGreatDoorCea
namespace Go.Proofs.YtolhifnlahllnaaGreatDoor
open Go.RowKit Hy
theorem cel_eql (a a' : Int) (b b' : Nat) (s s' : ByteArray) (w : World) :
    (binOp .eql 42 (.agg #[.int .i64 a, .int .u64 (b : Int), .string s]) (.agg #[.int .i64 a', .int .u64 (b' : Int), .string s'])).run Tryz.prog w = .ok (.bool (decide (((a, b, s) : Cel) = (a', b', s')))) w := by
  have hs : (s.toList = s'.toList) ↔ s = s' := by
    rw [ByteArray.toList_eq, ByteArray.toList_eq]
    exact ⟨fun h => ByteArray.ext (Array.ext' h), fun h => by rw [h]⟩
  go_simp
  simp only [Int.natCast_inj]
  by_cases h1 : a = a' <;> by_cases h2 : b = b' <;> by_cases h3 : s = s' <;> simp [h1, h2, h3]
theorem cel_neq (a a' : Int) (b b' : Nat) (s s' : ByteArray) (w : World) :
    (binOp .neq 42 (.agg #[.int .i64 a, .int .u64 (b : Int), .string s]) (.agg #[.int .i64 a', .int .u64 (b' : Int), .string s'])).run Tryz.prog w = .ok (.bool (!decide (((a, b, s) : Cel) = (a', b', s')))) w := by
  have hs : (s.toList = s'.toList) ↔ s = s' := by
    rw [ByteArray.toList_eq, ByteArray.toList_eq]
    exact ⟨fun h => ByteArray.ext (Array.ext' h), fun h => by rw [h]⟩
  go_simp
  simp only [Int.natCast_inj]
  by_cases h1 : a = a' <;> by_cases h2 : b = b' <;> by_cases h3 : s = s' <;> simp [h1, h2, h3]
end Go.Proofs.YtolhifnlahllnaaGreatDoor
