/- The document's MarksOf: its errors: walks. -/
import Derived.Test.YtikdmnedbfpkeaaDoorMka
namespace Go.Proofs.YtikdmnedbfpkeaaDoor
open Go.RowKit Hy
set_option maxHeartbeats 400000 in
theorem marksOf_many (A B : Option Addr) (n m ca cb : Nat) (z : Bool) (w : World) (h : 64 < n ∨ 64 < m) :
    Calls Tryd.prog 22 #[.slice A n ca, .slice B m cb, .bool z] w fun e w' => e = .returned (.tuple #[.slice none 0 0, .int .i64 2]) ∧ w = w' := by
  by_cases h1 : 64 < n
  · have hI : (64 : Int) < (n : Int) := by omega
    clear h h1
    go_enter Tryd.func22, Tryd.ntmps22
    go_wp2
    go_returns
    exact ⟨rfl, rfl⟩
  · have hI : ¬ (64 : Int) < (n : Int) := by omega
    have hJ : (64 : Int) < (m : Int) := by omega
    clear h h1
    go_enter Tryd.func22, Tryd.ntmps22
    go_wp2
    go_returns
    exact ⟨rfl, rfl⟩
set_option maxHeartbeats 400000 in
theorem marksOf_form (A B : Option Addr) (n m ca cb : Nat) (z : Bool) (w : World) (h1 : n ≤ 64) (h2 : m ≤ 64) (h3 : n ≠ m) :
    Calls Tryd.prog 22 #[.slice A n ca, .slice B m cb, .bool z] w fun e w' => e = .returned (.tuple #[.slice none 0 0, .int .i64 1]) ∧ w = w' := by
  have hI : ¬ (64 : Int) < (n : Int) := by omega
  have hJ : ¬ (64 : Int) < (m : Int) := by omega
  have hne : ((n : Int) != (m : Int)) = true := by rw [bne_iff_ne]; omega
  clear h1 h2 h3
  go_enter Tryd.func22, Tryd.ntmps22
  go_wp2
  go_returns
  exact ⟨rfl, rfl⟩
end Go.Proofs.YtikdmnedbfpkeaaDoor
