/- The closed tests of Adler, walked. -/
import Derived.Test.YtiamfjfbmgijhaaAdr
namespace Go.Proofs.Ytiamfjfbmgijhaa
open Go.RowKit Hy

theorem of_c (a : Array UInt8) (n : Int) (w : World) (hs : a.size ≤ 100) (h : (Adler.more 1 a.toList : Int) = n) :
    Calls Try.prog 20 #[.string ⟨a⟩] w fun e w' => e = .returned (.int .u32 n) ∧ Ext w w' :=
  (of_any ⟨a⟩ w (by unfold maxLen; show a.size ≤ _; omega)).mono fun e w' ⟨he, hw⟩ => ⟨by rw [he, ← h], hw⟩
theorem joined_c (a b n r : Int) (w : World) (h0 : 0 ≤ n) (h1 : n ≤ 2147483647) (ha : 0 ≤ a) (ha' : a < 4294967296) (hb : 0 ≤ b) (hb' : b < 4294967296) (h : Adler.joined a b n = r) :
    Calls Try.prog 15 #[.int .u32 a, .int .u32 b, .int .i64 n] w fun e w' => e = .returned (.tuple #[.int .u32 r, .int .i64 0]) ∧ Ext w w' :=
  (joined_yes a b n w h0 h1 ha ha' hb hb').mono fun e w' ⟨he, hw⟩ => ⟨by rw [he, ← h], hw⟩
theorem roll_c (a n x y r : Int) (w : World) (h0 : 1 ≤ n) (h1 : n ≤ 2147483647) (ha : 0 ≤ a) (ha' : a < 4294967296) (hx : 0 ≤ x) (hx' : x < 256) (hy : 0 ≤ y) (hy' : y < 256) (h : Adler.rolled a n x y = r) :
    Calls Try.prog 16 #[.int .u32 a, .int .i64 n, .int .u8 x, .int .u8 y] w fun e w' => e = .returned (.tuple #[.int .u32 r, .int .i64 0]) ∧ Ext w w' :=
  (roll_yes a n x y w h0 h1 ha ha' hx hx' hy hy').mono fun e w' ⟨he, hw⟩ => ⟨by rw [he, ← h], hw⟩

set_option maxHeartbeats 400000 in
theorem begun_any (w : World) : Calls Try.prog 19 #[] w fun e w' => e = .returned (.bool true) ∧ Ext w w' := by
  go_enter Try.func19, Try.ntmps19
  go_wp2_with (first
    | (go_at_call_of 20 (Value.string { data := #[87, 105, 107, 105] }); refine (of_c _ 64618901 _ (by decide) (by decide)).mono ?_; rintro e w1 ⟨rfl, b1⟩)
    | (go_at_call_of 20 (Value.string { data := #[112, 101, 100, 105, 97] }); refine (of_c _ 103285252 _ (by decide) (by decide)).mono ?_; rintro e w2 ⟨rfl, b2⟩)
    | (go_at_call_of 20 (Value.string { data := #[97, 98, 99, 100] }); refine (of_c _ 64487819 _ (by decide) (by decide)).mono ?_; rintro e w4 ⟨rfl, b4⟩)
    | (go_at_call_of 20 (Value.string { data := #[98, 99, 100, 101] }); refine (of_c _ 65143183 _ (by decide) (by decide)).mono ?_; rintro e w9 ⟨rfl, b9⟩)
    | (go_at_call_of 20 (Value.string { data := #[87, 105, 107, 105, 112, 101, 100, 105, 97] }); refine (of_c _ 300286872 _ (by decide) (by decide)).mono ?_; rintro e w7 ⟨rfl, b7⟩)
    | (go_at_call_of 20 (Value.string { data := #[] }); refine (of_c _ 1 _ (by decide) (by decide)).mono ?_; rintro e w8 ⟨rfl, b8⟩)
    | (go_at_call 15; refine (joined_c 64618901 103285252 5 300286872 _ (by decide) (by decide) (by decide) (by decide) (by decide) (by decide) (by decide)).mono ?_; rintro e w3 ⟨rfl, b3⟩)
    | (go_at_call_of 16 (Value.int IntKind.u32 64487819); refine (roll_c 64487819 4 97 101 65143183 _ (by decide) (by decide) (by decide) (by decide) (by decide) (by decide) (by decide) (by decide) (by decide)).mono ?_; rintro e w5 ⟨rfl, b5⟩)
    | (go_at_call_of 16 (Value.int IntKind.u32 1); refine (roll_no 1 0 0 0 _ (by decide)).mono ?_; rintro e w6 ⟨rfl, b6⟩))
  go_returns
  exact ⟨rfl, (((((((b1.then b2).then b3).then b4).then b5).then b6).then b7).then b8).then b9⟩

theorem joined_any (a b : Nat) (n : Int) (w : World) (ha' : (a : Int) < 4294967296) (hb' : (b : Int) < 4294967296) :
    Calls Try.prog 15 #[.int .u32 a, .int .u32 b, .int .i64 n] w fun e w' => e = .returned (.tuple #[.int .u32 (Adler.jv a b n), .int .i64 (Adler.je n)]) ∧ Ext w w' := by
  unfold Adler.jv Adler.je
  by_cases h : n < 0 ∨ 2147483647 < n
  · simp only [if_pos h]; exact joined_no a b n w h
  · simp only [if_neg h]; exact joined_yes a b n w (by omega) (by omega) (by omega) ha' (by omega) hb'
theorem rjoined_any (a b : Nat) (n : Int) (w : World) (ha' : (a : Int) < 4294967296) (hb' : (b : Int) < 4294967296) :
    Calls Try.prog 17 #[.int .u32 a, .int .u32 b, .int .i64 n] w fun e w' => e = .returned (.tuple #[.int .u32 (Adler.jv a b n), .int .i64 (Adler.je n)]) ∧ w = w' := by
  unfold Adler.jv Adler.je
  by_cases h : n < 0 ∨ 2147483647 < n
  · simp only [if_pos h]; exact rjoined_no a b n w h
  · simp only [if_neg h]; exact rjoined_yes a b n w (by omega) (by omega) (by omega) ha' (by omega) hb'
theorem roll_any (a : Nat) (n x y : Int) (w : World) (ha' : (a : Int) < 4294967296) (hx : 0 ≤ x) (hx' : x < 256) (hy : 0 ≤ y) (hy' : y < 256) :
    Calls Try.prog 16 #[.int .u32 a, .int .i64 n, .int .u8 x, .int .u8 y] w fun e w' => e = .returned (.tuple #[.int .u32 (Adler.rv a n x y), .int .i64 (Adler.re n)]) ∧ Ext w w' := by
  unfold Adler.rv Adler.re
  by_cases h : n < 1 ∨ 2147483647 < n
  · simp only [if_pos h]; exact roll_no a n x y w h
  · simp only [if_neg h]; exact roll_yes a n x y w (by omega) (by omega) (by omega) ha' hx hx' hy hy'
theorem rrolled_any (a : Nat) (n x y : Int) (w : World) (ha' : (a : Int) < 4294967296) (hx : 0 ≤ x) (hx' : x < 256) (hy : 0 ≤ y) (hy' : y < 256) :
    Calls Try.prog 18 #[.int .u32 a, .int .i64 n, .int .u8 x, .int .u8 y] w fun e w' => e = .returned (.tuple #[.int .u32 (Adler.rv a n x y), .int .i64 (Adler.re n)]) ∧ w = w' := by
  unfold Adler.rv Adler.re
  by_cases h : n < 1 ∨ 2147483647 < n
  · simp only [if_pos h]; exact rolled_no a n x y w h
  · simp only [if_neg h]; exact rolled_yes a n x y w (by omega) (by omega) (by omega) ha' hx hx' hy hy'

set_option maxHeartbeats 400000 in
theorem tells_any (c d : Nat) (s : ByteArray) (n : Int) (x y : Int) (w : World) (hc : (c : Int) < 4294967296) (hd : (d : Int) < 4294967296) (hx : 0 ≤ x) (hx' : x < 256) (hy : 0 ≤ y) (hy' : y < 256) (hs : s.size ≤ 140737488351232) :
    Calls Try.prog 4 #[.int .u32 c, .int .u32 d, .string s, .int .i64 n, .int .u8 x, .int .u8 y] w fun e w' => e = .returned (.bool true) ∧ Ext w w' := by
  have hs2 : s.size ≤ maxLen := by unfold maxLen; omega
  go_enter Try.func4, Try.ntmps4
  go_wp2_with (first
      | (go_at_call 15; refine (joined_any c d n _ hc hd).mono ?_; rintro e w1 ⟨rfl, b1⟩)
      | (go_at_call 16; refine (roll_any c n x y _ hc hx hx' hy hy').mono ?_; rintro e w2 ⟨rfl, b2⟩)
      | (go_at_call 17; refine (rjoined_any c d n _ hc hd).mono ?_; rintro e w3 ⟨rfl, rfl⟩)
      | (go_at_call 18; refine (rrolled_any c n x y _ hc hx hx' hy hy').mono ?_; rintro e w4 ⟨rfl, rfl⟩)
      | (go_at_call 19; refine (begun_any _).mono ?_; rintro e w5 ⟨rfl, b5⟩)
      | (go_at_call 20; refine (of_any s _ hs2).mono ?_; rintro e w6 ⟨rfl, b6⟩)
      | (go_at_call_of 21 (Value.int IntKind.u32 1); refine (adlerOf_any 1 s _ (by decide) hs).mono ?_; rintro e w7 ⟨rfl, rfl⟩)
      | (go_at_call 22; refine (more_any c s _ hc hs2).mono ?_; rintro e w8 ⟨rfl, b8⟩)
      | (go_at_call_of 21 (Value.int IntKind.u32 c); refine (adlerOf_any c s _ hc hs).mono ?_; rintro e w9 ⟨rfl, rfl⟩))
  go_returns
  exact ⟨rfl, (((b1.then b2).then b5).then b6).then b8⟩

end Go.Proofs.Ytiamfjfbmgijhaa
