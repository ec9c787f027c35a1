/- Cells: Kind, there, compare, Order, Less: walks. -/
import Derived.Test.YtpheegfanljeeaaCel
import Derived.Test.YtpheegfanljeeaaApp
import Derived.Test.YtpheegfanljeeaaShelf
import Derived.Test.YtpheegfanljeeaaRows
import Derived.StillTactics
import Derived.StillTailTactics
namespace Hy
open Go
abbrev celV (c : Cel) : Value := .agg #[.int .i64 c.1, .int .u64 (c.2.1 : Nat), .string c.2.2]
abbrev celA (c : Cel) : Array Value := #[.int .i64 c.1, .int .u64 (c.2.1 : Nat), .string c.2.2]
end Hy
namespace Go.Proofs.Ytpheegfanljeeaa
open Go.RowKit Hy
theorem kind_any (k : Int) (w : World) : Calls Try.prog 68 #[.int .i64 k] w fun e w' => e = .returned (.bool (decide (k = 1 ∨ k = 2))) ∧ w = w' := by
  by_cases h1 : k = 1
  · subst h1
    go_enter Try.func68, Try.ntmps68
    go_wp2
    go_returns
    exact ⟨rfl, rfl⟩
  · have e1 : (k == 1) = false := by simpa using h1
    by_cases h2 : k = 2
    · subst h2
      go_enter Try.func68, Try.ntmps68
      go_wp2
      go_returns
      exact ⟨rfl, rfl⟩
    · have e2 : (k == 2) = false := by simpa using h2
      have e3 : decide (k = 1 ∨ k = 2) = false := by simp [h1, h2]
      rw [e3]
      go_enter Try.func68, Try.ntmps68
      go_wp2
      go_returns
      exact ⟨rfl, rfl⟩
theorem there_any (c : Cel) (w : World) : Calls Try.prog 111 #[celV c] w fun e w' => e = .returned (.bool (decide (c.1 ≠ 0))) ∧ Ext w w' := by
  obtain ⟨k, n, s⟩ := c
  have e : decide (k ≠ 0) = (k != 0) := by by_cases h : k = 0 <;> simp [h]
  go_enter Try.func111, Try.ntmps111
  go_wp2
  go_returns
  exact ⟨by rw [e]; rfl, Ext.new (ext_refl _) _⟩
theorem cmpInt_any (x y : Int) (w : World) : Calls Try.prog 113 #[.int .i64 x, .int .i64 y] w fun e w' => e = .returned (.int .i64 (Lib.compareInt x y)) ∧ w' = w := Try.cmp_Compare_int x y w
theorem isNaN_u64 (x : Int) (w : World) : Calls Try.prog 126 #[.int .u64 x] w fun e w' => e = .returned (.bool false) ∧ w = w' := by
  go_enter Try.func126, Try.ntmps126
  go_wp2
  go_returns
  exact ⟨by simp, rfl⟩
theorem cmpU64_any (x y : Int) (w : World) : Calls Try.prog 114 #[.int .u64 x, .int .u64 y] w fun e w' => e = .returned (.int .i64 (Lib.compareInt x y)) ∧ w' = w := by
  unfold Lib.compareInt
  by_cases h1 : x < y
  · rw [if_pos h1]
    go_enter Try.func114, Try.ntmps114
    go_wp2_with (go_at_call 126; refine (isNaN_u64 _ _).mono ?_; rintro e w' ⟨rfl, rfl⟩)
    go_returns
    exact ⟨rfl, rfl⟩
  · rw [if_neg h1]
    by_cases h2 : x > y
    · rw [if_pos h2]
      go_enter Try.func114, Try.ntmps114
      go_wp2_with (go_at_call 126; refine (isNaN_u64 _ _).mono ?_; rintro e w' ⟨rfl, rfl⟩)
      go_returns
      exact ⟨rfl, rfl⟩
    · rw [if_neg h2]
      go_enter Try.func114, Try.ntmps114
      go_wp2_with (go_at_call 126; refine (isNaN_u64 _ _).mono ?_; rintro e w' ⟨rfl, rfl⟩)
      go_returns
      exact ⟨rfl, rfl⟩
theorem or_any (x y z : Int) (g c : Nat) (w : World) (d0 : w.cell? ⟨g, 0, none⟩ = some (.int .i64 x)) (d1 : w.cell? ⟨g, 1, none⟩ = some (.int .i64 y)) (d2 : w.cell? ⟨g, 2, none⟩ = some (.int .i64 z)) :
    Calls Try.prog 112 #[.slice (some ⟨g, 0, none⟩) 3 c] w fun e w' => e = .returned (.int .i64 (Cel.or3 x y z)) ∧ w = w' := by
  unfold Cel.or3
  by_cases h1 : x = 0
  · subst h1
    rw [if_neg (by simp)]
    by_cases h2 : y = 0
    · subst h2
      rw [if_neg (by simp)]
      by_cases h3 : z = 0
      · subst h3
        go_enter Try.func112, Try.ntmps112
        go_wp2
        refine wp_loop_rounds 4 ?_
        rw [rounds_succ]
        go_wp2
        rw [rounds_succ]
        go_wp2
        rw [rounds_succ]
        go_wp2
        rw [rounds_succ]
        go_wp2
        go_returns
        exact ⟨rfl, rfl⟩
      · have e3 : (z == 0) = false := by simpa using h3
        have e4 : (z != 0) = true := by simpa using h3
        go_enter Try.func112, Try.ntmps112
        go_wp2
        refine wp_loop_rounds 4 ?_
        rw [rounds_succ]
        go_wp2
        rw [rounds_succ]
        go_wp2
        rw [rounds_succ]
        go_wp2
        go_returns
        exact ⟨rfl, rfl⟩
    · have e3 : (y == 0) = false := by simpa using h2
      have e4 : (y != 0) = true := by simpa using h2
      rw [if_pos h2]
      go_enter Try.func112, Try.ntmps112
      go_wp2
      refine wp_loop_rounds 4 ?_
      rw [rounds_succ]
      go_wp2
      rw [rounds_succ]
      go_wp2
      go_returns
      exact ⟨rfl, rfl⟩
  · have e3 : (x == 0) = false := by simpa using h1
    have e4 : (x != 0) = true := by simpa using h1
    rw [if_pos h1]
    go_enter Try.func112, Try.ntmps112
    go_wp2
    refine wp_loop_rounds 4 ?_
    rw [rounds_succ]
    go_wp2
    go_returns
    exact ⟨rfl, rfl⟩
end Go.Proofs.Ytpheegfanljeeaa
