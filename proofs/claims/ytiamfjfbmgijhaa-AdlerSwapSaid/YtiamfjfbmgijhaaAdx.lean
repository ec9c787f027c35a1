/- The walks of adler's other functions. -/
import Derived.Test.YtiamfjfbmgijhaaAdw
namespace Go.Proofs.Ytiamfjfbmgijhaa
open Go.RowKit Hy

theorem len_yes (n : Int) (w : World) (h0 : 0 ≤ n) (h1 : n ≤ 2147483647) :
    Calls Try.prog 34 #[.int .i64 n] w fun e w' => e = .returned (.bool true) ∧ w = w' := by
  go_enter Try.func34, Try.ntmps34
  go_wp2
  go_returns
  exact ⟨by simp, rfl⟩
theorem len_no (n : Int) (w : World) (h : n < 0 ∨ 2147483647 < n) :
    Calls Try.prog 34 #[.int .i64 n] w fun e w' => e = .returned (.bool false) ∧ w = w' := by
  by_cases h0 : n < 0
  all_goals
    go_enter Try.func34, Try.ntmps34
    go_wp2
    go_returns
    exact ⟨by first | rfl | (simp; omega), rfl⟩

set_option maxHeartbeats 400000 in
theorem joined_no (a b n : Int) (w : World) (h : n < 0 ∨ 2147483647 < n) :
    Calls Try.prog 15 #[.int .u32 a, .int .u32 b, .int .i64 n] w fun e w' => e = .returned (.tuple #[.int .u32 0, .int .i64 3]) ∧ Ext w w' := by
  go_enter Try.func15, Try.ntmps15
  go_wp2_with (go_at_call 34; refine (len_no n _ h).mono ?_; rintro e w1 ⟨rfl, rfl⟩)
  go_returns
  exact ⟨rfl, ext_refl _⟩
set_option maxHeartbeats 400000 in
theorem joined_yes (a b n : Int) (w : World) (h0 : 0 ≤ n) (h1 : n ≤ 2147483647) (ha : 0 ≤ a) (ha' : a < 4294967296) (hb : 0 ≤ b) (hb' : b < 4294967296) :
    Calls Try.prog 15 #[.int .u32 a, .int .u32 b, .int .i64 n] w fun e w' => e = .returned (.tuple #[.int .u32 (Adler.joined a b n), .int .i64 0]) ∧ Ext w w' := by
  obtain ⟨a0, a1⟩ := Adler.lo_bd a
  obtain ⟨a2, a3⟩ := Adler.up_bd a
  obtain ⟨b0, b1⟩ := Adler.lo_bd b
  obtain ⟨b2, b3⟩ := Adler.up_bd b
  obtain ⟨m0, m1⟩ := Adler.mul_bd n ((Adler.lo a + 65521 - 1) % 65521) _ h0 h1 (by omega) (by omega) (Int.le_refl _)
  go_enter Try.func15, Try.ntmps15
  go_wp2_with (first | (go_at_call 34; refine (len_yes n _ h0 h1).mono ?_; rintro e w1 ⟨rfl, rfl⟩) | (go_at_call_of 35 (Value.int IntKind.u32 a); refine (halved_any a _ ha ha').mono ?_; rintro e w1 ⟨rfl, hb1⟩) | (go_at_call_of 35 (Value.int IntKind.u32 b); refine (halved_any b _ hb hb').mono ?_; rintro e w2 ⟨rfl, hb2⟩) | (go_at_call 36; refine (sum_any _ _ _ (by omega) (by omega) (by omega) (by omega)).mono ?_; rintro e w3 ⟨rfl, hb3⟩))
  go_returns
  exact ⟨ret_int2 (Adler.joined_eq a b n) rfl, (((hb1.then hb2).new _).new _).then hb3⟩
set_option maxHeartbeats 400000 in
theorem roll_no (a n x y : Int) (w : World) (h : n < 1 ∨ 2147483647 < n) :
    Calls Try.prog 16 #[.int .u32 a, .int .i64 n, .int .u8 x, .int .u8 y] w fun e w' => e = .returned (.tuple #[.int .u32 0, .int .i64 3]) ∧ Ext w w' := by
  by_cases h0 : n = 0
  · subst h0
    go_enter Try.func16, Try.ntmps16
    go_wp2_with (go_at_call 34; refine (len_yes 0 _ (by omega) (by omega)).mono ?_; rintro e w1 ⟨rfl, rfl⟩)
    go_returns
    exact ⟨rfl, ext_refl _⟩
  · go_enter Try.func16, Try.ntmps16
    go_wp2_with (go_at_call 34; refine (len_no n _ (by omega)).mono ?_; rintro e w1 ⟨rfl, rfl⟩)
    go_returns
    exact ⟨rfl, ext_refl _⟩
set_option maxHeartbeats 400000 in
theorem roll_yes (a n x y : Int) (w : World) (h0 : 1 ≤ n) (h1 : n ≤ 2147483647) (ha : 0 ≤ a) (ha' : a < 4294967296) (hx : 0 ≤ x) (hx' : x < 256) (hy : 0 ≤ y) (hy' : y < 256) :
    Calls Try.prog 16 #[.int .u32 a, .int .i64 n, .int .u8 x, .int .u8 y] w fun e w' => e = .returned (.tuple #[.int .u32 (Adler.rolled a n x y), .int .i64 0]) ∧ Ext w w' := by
  obtain ⟨a0, a1⟩ := Adler.lo_bd a
  obtain ⟨a2, a3⟩ := Adler.up_bd a
  obtain ⟨m0, m1⟩ := Adler.mul_bd (n % 65521) x 2147483647 (by omega) (by omega) (by omega) (by omega) (Int.le_refl _)
  go_enter Try.func16, Try.ntmps16
  go_wp2_with (first | (go_at_call 34; refine (len_yes n _ (by omega) h1).mono ?_; rintro e w1 ⟨rfl, rfl⟩) | (go_at_call 35; refine (halved_any a _ ha ha').mono ?_; rintro e w1 ⟨rfl, hb1⟩) | (go_at_call 36; refine (sum_any _ _ _ (by omega) (by omega) (by omega) (by omega)).mono ?_; rintro e w3 ⟨rfl, hb3⟩))
  go_returns
  exact ⟨ret_int2 (Adler.rolled_eq a n x y hx hx' hy hy') rfl, (hb1.new _).then hb3⟩
end Go.Proofs.Ytiamfjfbmgijhaa
