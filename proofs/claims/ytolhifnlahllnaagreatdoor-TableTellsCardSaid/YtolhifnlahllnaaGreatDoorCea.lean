/- Cells: Kind, there, compare, Order, Less: walks. -/
import Derived.Test.YtolhifnlahllnaaGreatDoorClx
import Derived.Test.YtolhifnlahllnaaGreatDoorGen
import Derived.Test.YtolhifnlahllnaaGreatDoorKnd
import Derived.Test.YtolhifnlahllnaaGreatDoorShelf
import Derived.Test.YtolhifnlahllnaaGreatDoorRows
import Derived.StillTactics
import Derived.StillTailTactics
namespace Go.Proofs.YtolhifnlahllnaaGreatDoor
open Go.RowKit Hy
theorem there_any (c : Cel) (w : World) : Calls Tryz.prog 116 #[celV c] w fun e w' => e = .returned (.bool (decide (c.1 ≠ 0))) ∧ Ext w w' := by
  obtain ⟨k, n, s⟩ := c
  have e : decide (k ≠ 0) = (k != 0) := by by_cases h : k = 0 <;> simp [h]
  go_enter Tryz.func116, Tryz.ntmps116
  go_wp2
  go_returns
  exact ⟨by rw [e]; rfl, Ext.new (ext_refl _) _⟩
theorem cmpInt_any (x y : Int) (w : World) : Calls Tryz.prog 118 #[.int .i64 x, .int .i64 y] w fun e w' => e = .returned (.int .i64 (Lib.compareInt x y)) ∧ w' = w := Tryz.cmp_Compare_int x y w
theorem isNaN_u64 (x : Int) (w : World) : Calls Tryz.prog 126 #[.int .u64 x] w fun e w' => e = .returned (.bool false) ∧ w = w' := by
  go_enter Tryz.func126, Tryz.ntmps126
  go_wp2
  go_returns
  exact ⟨by simp, rfl⟩
theorem cmpU64_any (x y : Int) (w : World) : Calls Tryz.prog 119 #[.int .u64 x, .int .u64 y] w fun e w' => e = .returned (.int .i64 (Lib.compareInt x y)) ∧ w' = w := by
  unfold Lib.compareInt
  by_cases h1 : x < y
  · rw [if_pos h1]
    go_enter Tryz.func119, Tryz.ntmps119
    go_wp2_with (go_at_call 126; refine (isNaN_u64 _ _).mono ?_; rintro e w' ⟨rfl, rfl⟩)
    go_returns
    exact ⟨rfl, rfl⟩
  · rw [if_neg h1]
    by_cases h2 : x > y
    · rw [if_pos h2]
      go_enter Tryz.func119, Tryz.ntmps119
      go_wp2_with (go_at_call 126; refine (isNaN_u64 _ _).mono ?_; rintro e w' ⟨rfl, rfl⟩)
      go_returns
      exact ⟨rfl, rfl⟩
    · rw [if_neg h2]
      go_enter Tryz.func119, Tryz.ntmps119
      go_wp2_with (go_at_call 126; refine (isNaN_u64 _ _).mono ?_; rintro e w' ⟨rfl, rfl⟩)
      go_returns
      exact ⟨rfl, rfl⟩
theorem or_any (x y z : Int) (g c : Nat) (w : World) (d0 : w.cell? ⟨g, 0, none⟩ = some (.int .i64 x)) (d1 : w.cell? ⟨g, 1, none⟩ = some (.int .i64 y)) (d2 : w.cell? ⟨g, 2, none⟩ = some (.int .i64 z)) :
    Calls Tryz.prog 117 #[.slice (some ⟨g, 0, none⟩) 3 c] w fun e w' => e = .returned (.int .i64 (Cel.or3 x y z)) ∧ w = w' := by
  unfold Cel.or3
  by_cases h1 : x = 0
  · subst h1
    rw [if_neg (by simp)]
    by_cases h2 : y = 0
    · subst h2
      rw [if_neg (by simp)]
      by_cases h3 : z = 0
      · subst h3
        go_enter Tryz.func117, Tryz.ntmps117
        go_wp2
        refine wp_loop_rounds 4 ?_
        rw [rounds_succ]
        go_wp2
        rw [rounds_succ]
        go_wp2
        rw [rounds_succ]
        go_wp2
        rw [rounds_succ]
        go_wp2
        go_returns
        exact ⟨rfl, rfl⟩
      · have e3 : (z == 0) = false := by simpa using h3
        have e4 : (z != 0) = true := by simpa using h3
        go_enter Tryz.func117, Tryz.ntmps117
        go_wp2
        refine wp_loop_rounds 4 ?_
        rw [rounds_succ]
        go_wp2
        rw [rounds_succ]
        go_wp2
        rw [rounds_succ]
        go_wp2
        go_returns
        exact ⟨rfl, rfl⟩
    · have e3 : (y == 0) = false := by simpa using h2
      have e4 : (y != 0) = true := by simpa using h2
      rw [if_pos h2]
      go_enter Tryz.func117, Tryz.ntmps117
      go_wp2
      refine wp_loop_rounds 4 ?_
      rw [rounds_succ]
      go_wp2
      rw [rounds_succ]
      go_wp2
      go_returns
      exact ⟨rfl, rfl⟩
  · have e3 : (x == 0) = false := by simpa using h1
    have e4 : (x != 0) = true := by simpa using h1
    rw [if_pos h1]
    go_enter Tryz.func117, Tryz.ntmps117
    go_wp2
    refine wp_loop_rounds 4 ?_
    rw [rounds_succ]
    go_wp2
    go_returns
    exact ⟨rfl, rfl⟩
end Go.Proofs.YtolhifnlahllnaaGreatDoor
