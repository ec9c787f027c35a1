/- Adler: the laws without the document's answer, walked. -/
import Derived.Test.YtiamfjfbmgijhaaAdb
import Derived.Test.YtiamfjfbmgijhaaAdp
namespace Go.Proofs.Ytiamfjfbmgijhaa
open Go.RowKit Hy

theorem of_gives (s : ByteArray) (n : Int) (hs : s.size ≤ maxLen) (h : (Adler.more 1 s.data.toList : Int) = n) : Gives Try.prog 20 #[.string s] (.int .u32 n) :=
  fun w => (of_any s w hs).mono fun e w' ⟨he, hw⟩ => ⟨by rw [he, ← h], hw⟩
theorem begun_gives : Gives Try.prog 19 #[] (.bool true) := begun_any
theorem byteText_gives (b : Nat) (h : b < 256) : Gives Try.prog 23 #[.int .u8 b] (.string ⟨#[UInt8.ofNat b]⟩) := fun w => byteText_any b w h

set_option maxHeartbeats 400000 in
theorem byte_core (s X : ByteArray) (i b : Nat) (w : World) (hs : s.size ≤ 140737488351232) (hi : i < s.size) (hb : b < 256) (m1 m2 : Int)
   (hX : s.extract 0 i ++ ⟨#[UInt8.ofNat b]⟩ ++ s.extract (i + 1) s.size = X) (c1 : Gives Try.prog 20 #[.string X] (.int .u32 m1)) (c2 : Gives Try.prog 20 #[.string s] (.int .u32 m2))
   (h : (m1 == m2) = ((s[i].toNat : Int) == (b : Int))) :
    Calls Try.prog 7 #[.string s, .int .i64 i, .int .u8 b] w fun e w' => e = .returned (.bool true) ∧ Ext w w' := by
  go_enter Try.func7, Try.ntmps7
  go_wp2_with (go_at_call 19; refine (begun_any _).mono ?_; rintro e w5 ⟨rfl, b5⟩)
  refine wp_region_quiet_below (by kernel_rfl) (by kernel_rfl) ?_
  repeat (go_big_quiet_step ((first
    | (go_at_call 23; exact (byteText_gives b hb).quiet _ _ _)
    | (go_at_call_of 20 (Value.string s); exact c2.quiet _ _ _)
    | (go_at_call_of 20 (Value.string X); exact c1.quiet _ _ _))))
  refine wpQuiet_nil ?_
  intro w9 hw9
  obtain ⟨p, rfl⟩ := hw9
  have b9 := ext_regrown w5 p
  go_wp2
  go_returns
  exact ⟨rfl, b5.then b9⟩
set_option maxHeartbeats 400000 in
theorem byte_out (s : ByteArray) (i : Int) (b : Nat) (w : World) (h : i < 0 ∨ s.size ≤ i) :
    Calls Try.prog 7 #[.string s, .int .i64 i, .int .u8 b] w fun e w' => e = .returned (.bool true) ∧ Ext w w' := by
  rcases h with h | h
  all_goals
    go_enter Try.func7, Try.ntmps7
    go_wp2_with (go_at_call 19; refine (begun_any _).mono ?_; rintro e w5 ⟨rfl, b5⟩)
    go_returns
    exact ⟨rfl, b5⟩
theorem byte_any (s : ByteArray) (i : Int) (b : Nat) (w : World) (hs : s.size ≤ 140737488351232) (hb : b < 256) :
    Calls Try.prog 7 #[.string s, .int .i64 i, .int .u8 b] w fun e w' => e = .returned (.bool true) ∧ Ext w w' := by
  by_cases h : i < 0 ∨ s.size ≤ i
  · exact byte_out s i b w h
  obtain ⟨k, rfl⟩ : ∃ k : Nat, i = k := ⟨i.toNat, by omega⟩
  have hk : k < s.size := by omega
  have e1 : (ByteArray.mk #[UInt8.ofNat b]).size = 1 := rfl
  refine byte_core s _ k b w hs hk hb _ _ rfl (of_gives _ _ ?_ rfl) (of_gives _ _ ?_ rfl) ?_
  · unfold maxLen; rw [ByteArray.size_append, ByteArray.size_append, e1, ByteArray.size_extract, ByteArray.size_extract]; omega
  · unfold maxLen; omega
  · have hs1 := at_list s k hk
    have hX : (s.extract 0 k ++ ⟨#[UInt8.ofNat b]⟩ ++ s.extract (k + 1) s.size).data.toList = s.data.toList.take k ++ [UInt8.ofNat b] ++ s.data.toList.drop (k + 1) := by
      rw [app_list, app_list, ext_head, ext_tail]
    have hm := Adler.more_byte (s.data.toList.take k) (s.data.toList.drop (k + 1)) (UInt8.ofNat b) s[k]
    rw [← hs1, ← hX] at hm
    rw [Bool.eq_iff_iff]
    simp only [beq_iff_eq]
    have e2 : ((s[k].toNat : Int) = (b : Int)) ↔ UInt8.ofNat b = s[k] := by
      constructor
      · intro e
        apply UInt8.toNat_inj.1
        simp; omega
      · intro e; rw [← e]; simp; omega
    rw [e2, ← hm]; omega

/-! ### two bytes changed about -/
set_option maxHeartbeats 400000 in
theorem swap_core (s X : ByteArray) (i : Nat) (w : World) (hs : s.size ≤ 140737488351232) (hi : i + 1 < s.size) (m1 m2 : Int)
   (hX : s.extract 0 i ++ s.extract (i + 1) (i + 2) ++ s.extract i (i + 1) ++ s.extract (i + 2) s.size = X) (c1 : Gives Try.prog 20 #[.string X] (.int .u32 m1)) (c2 : Gives Try.prog 20 #[.string s] (.int .u32 m2))
   (h : (m1 == m2) = ((s[i].toNat : Int) == (s[i+1].toNat : Int))) :
    Calls Try.prog 8 #[.string s, .int .i64 i] w fun e w' => e = .returned (.bool true) ∧ Ext w w' := by
  have hi' : i < s.size := by omega
  have t1 : ((i : Int) + 1).toNat = i + 1 := by omega
  have t2 : (0 : Int) ≤ (i : Int) + 1 := by omega
  have t3 : (i : Int) + 1 < (s.size : Int) := by omega
  go_enter Try.func8, Try.ntmps8
  go_wp2_with (go_at_call 19; refine (begun_any _).mono ?_; rintro e w5 ⟨rfl, b5⟩)
  refine wp_region_quiet_below (by kernel_rfl) (by kernel_rfl) ?_
  repeat (go_big_quiet_step ((first
    | (go_at_call_of 20 (Value.string s); exact c2.quiet _ _ _)
    | (go_at_call_of 20 (Value.string X); exact c1.quiet _ _ _))))
  refine wpQuiet_nil ?_
  intro w9 hw9
  obtain ⟨p, rfl⟩ := hw9
  have b9 := ext_regrown w5 p
  go_wp2
  go_returns
  exact ⟨rfl, b5.then b9⟩
set_option maxHeartbeats 400000 in
theorem swap_out (s : ByteArray) (i : Int) (w : World) (hs : s.size ≤ 140737488351232) (h : i < 0 ∨ (s.size : Int) - 1 ≤ i) :
    Calls Try.prog 8 #[.string s, .int .i64 i] w fun e w' => e = .returned (.bool true) ∧ Ext w w' := by
  by_cases h0 : i < 0
  all_goals
    go_enter Try.func8, Try.ntmps8
    go_wp2_with (go_at_call 19; refine (begun_any _).mono ?_; rintro e w5 ⟨rfl, b5⟩)
    go_returns
    exact ⟨rfl, b5⟩
theorem swap_any (s : ByteArray) (i : Int) (w : World) (hs : s.size ≤ 140737488351232) :
    Calls Try.prog 8 #[.string s, .int .i64 i] w fun e w' => e = .returned (.bool true) ∧ Ext w w' := by
  by_cases h : i < 0 ∨ (s.size : Int) - 1 ≤ i
  · exact swap_out s i w hs h
  obtain ⟨k, rfl⟩ : ∃ k : Nat, i = k := ⟨i.toNat, by omega⟩
  have hk : k + 1 < s.size := by omega
  refine swap_core s _ k w hs hk _ _ rfl (of_gives _ _ ?_ rfl) (of_gives _ _ ?_ rfl) ?_
  · unfold maxLen; simp only [ByteArray.size_append, ByteArray.size_extract]; omega
  · unfold maxLen; omega
  · have hs1 := at_list s k (by omega)
    have hd : s.data.toList.drop (k + 1) = s[k + 1] :: s.data.toList.drop (k + 2) := by
      rw [List.drop_eq_getElem_cons (by simpa using hk)]; rfl
    have hd0 : s.data.toList.drop k = s[k] :: s.data.toList.drop (k + 1) := by
      rw [List.drop_eq_getElem_cons (by simp; omega)]; rfl
    have hX : (s.extract 0 k ++ s.extract (k + 1) (k + 2) ++ s.extract k (k + 1) ++ s.extract (k + 2) s.size).data.toList = s.data.toList.take k ++ [s[k + 1]] ++ [s[k]] ++ s.data.toList.drop (k + 2) := by
      rw [app_list, app_list, app_list, ext_head, ext_tail, ext_list, ext_list, hd, hd0, show k + 2 - (k + 1) = 1 from by omega, show k + 1 - k = 1 from by omega]; rfl
    have hs2 : s.data.toList = s.data.toList.take k ++ [s[k]] ++ [s[k + 1]] ++ s.data.toList.drop (k + 2) := by
      rw [hd] at hs1; simpa using hs1
    have hm := Adler.more_swap (s.data.toList.take k) (s.data.toList.drop (k + 2)) s[k] s[k + 1]
    rw [← hs2, ← hX] at hm
    rw [Bool.eq_iff_iff]
    simp only [beq_iff_eq]
    have e2 : ((s[k].toNat : Int) = (s[k + 1].toNat : Int)) ↔ s[k] = s[k + 1] := by
      constructor
      · intro e
        apply UInt8.toNat_inj.1; omega
      · intro e; rw [e]
    rw [e2, ← hm]; omega

/-! ### sums that are joined -/
theorem joined_gives (a b : Nat) (n : Int) (r : Int) (ha' : (a : Int) < 4294967296) (hb' : (b : Int) < 4294967296) (h0 : 0 ≤ n) (h1 : n ≤ 2147483647) (h : Adler.jv a b n = r) :
    Gives Try.prog 15 #[.int .u32 a, .int .u32 b, .int .i64 n] (.tuple #[.int .u32 r, .int .i64 0]) := fun w =>
  (joined_any a b n w ha' hb').mono fun e w' ⟨he, hw⟩ => ⟨by rw [he, h]; unfold Adler.je; rw [if_neg (by omega)], hw⟩
theorem more_gives (c : Nat) (s : ByteArray) (n : Int) (h1 : (c : Int) < 4294967296) (hs : s.size ≤ maxLen) (h : (Adler.more c s.data.toList : Int) = n) : Gives Try.prog 22 #[.int .u32 c, .string s] (.int .u32 n) :=
  fun w => (more_any c s w h1 hs).mono fun e w' ⟨he, hw⟩ => ⟨by rw [he, ← h], hw⟩
set_option maxHeartbeats 400000 in
theorem joins_core (s t X : ByteArray) (w : World) (hs : s.size ≤ 1048576) (ht : t.size ≤ 1048576) (m1 m2 j : Int)
   (hX : s ++ t = X) (c1 : Gives Try.prog 20 #[.string s] (.int .u32 m1)) (c2 : Gives Try.prog 20 #[.string t] (.int .u32 m2)) (c3 : Gives Try.prog 20 #[.string X] (.int .u32 j))
   (c4 : Gives Try.prog 15 #[.int .u32 m1, .int .u32 m2, .int .i64 t.size] (.tuple #[.int .u32 j, .int .i64 0])) (c5 : Gives Try.prog 22 #[.int .u32 m1, .string t] (.int .u32 j)) :
    Calls Try.prog 5 #[.string s, .string t] w fun e w' => e = .returned (.bool true) ∧ Ext w w' := by
  have B := ext_refl w
  go_enter Try.func5, Try.ntmps5
  go_wp2_with (first
    | (go_at_call 19; refine (begun_any _).mono ?_; rintro e w5 ⟨rfl, b5⟩; replace B := Ext.then B b5)
    | (go_at_call_of 20 (Value.string X); refine (c3 _).mono ?_; rintro e w6 ⟨rfl, b6⟩; replace B := Ext.then B b6)
    | (go_at_call_of 20 (Value.string t); refine (c2 _).mono ?_; rintro e w3 ⟨rfl, b3⟩; replace B := Ext.then B b3)
    | (go_at_call 15; refine (c4 _).mono ?_; rintro e w4 ⟨rfl, b4⟩; replace B := Ext.then B b4)
    | (go_at_call 22; refine (c5 _).mono ?_; rintro e w8 ⟨rfl, b8⟩; replace B := Ext.then B b8)
    | (go_at_call_of 20 (Value.string s); refine (c1 _).mono ?_; rintro e w1 ⟨rfl, b1⟩; replace B := Ext.then B b1))
  go_returns
  exact ⟨rfl, B⟩
theorem joins_any (s t : ByteArray) (w : World) (hs : s.size ≤ 1048576) (ht : t.size ≤ 1048576) :
    Calls Try.prog 5 #[.string s, .string t] w fun e w' => e = .returned (.bool true) ∧ Ext w w' := by
  have b1 := Adler.sum_lt (Adler.ad (Adler.halves 1) s.data.toList)
  have b2 := Adler.sum_lt (Adler.ad (Adler.halves 1) t.data.toList)
  have hj := Adler.more_joins s.data.toList t.data.toList (by simp; omega)
  have hm := Adler.more_more s.data.toList t.data.toList
  have el : t.data.toList.length = t.size := by simp
  rw [el, ← app_list] at hj
  rw [← app_list] at hm
  refine joins_core s t _ w hs ht _ _ _ rfl (of_gives s _ ?_ rfl) (of_gives t _ ?_ rfl) (of_gives _ _ ?_ rfl) (joined_gives _ _ _ _ ?_ ?_ ?_ ?_ hj) (more_gives _ _ _ ?_ ?_ (by rw [hm]))
  · unfold maxLen; omega
  · unfold maxLen; omega
  · unfold maxLen; rw [ByteArray.size_append]; omega
  · unfold Adler.more; omega
  · unfold Adler.more; omega
  · omega
  · omega
  · unfold Adler.more; omega
  · unfold maxLen; omega

/-! ### a window that rolls -/
theorem roll_gives (a : Nat) (n x y r : Int) (ha' : (a : Int) < 4294967296) (hx : 0 ≤ x) (hx' : x < 256) (hy : 0 ≤ y) (hy' : y < 256) (h0 : 1 ≤ n) (h1 : n ≤ 2147483647) (h : Adler.rv a n x y = r) :
    Gives Try.prog 16 #[.int .u32 a, .int .i64 n, .int .u8 x, .int .u8 y] (.tuple #[.int .u32 r, .int .i64 0]) := fun w =>
  (roll_any a n x y w ha' hx hx' hy hy').mono fun e w' ⟨he, hw⟩ => ⟨by rw [he, h]; unfold Adler.re; rw [if_neg (by omega)], hw⟩
set_option maxHeartbeats 400000 in
theorem rolls_core (s X : ByteArray) (b : Nat) (w : World) (hs : s.size ≤ 1048576) (h0 : 0 < s.size) (hb : b < 256) (m1 r : Int)
   (hX : s.extract 1 s.size ++ ⟨#[UInt8.ofNat b]⟩ = X) (c1 : Gives Try.prog 20 #[.string s] (.int .u32 m1)) (c3 : Gives Try.prog 20 #[.string X] (.int .u32 r))
   (c4 : Gives Try.prog 16 #[.int .u32 m1, .int .i64 s.size, .int .u8 s[0].toNat, .int .u8 b] (.tuple #[.int .u32 r, .int .i64 0])) :
    Calls Try.prog 6 #[.string s, .int .u8 b] w fun e w' => e = .returned (.bool true) ∧ Ext w w' := by
  go_enter Try.func6, Try.ntmps6
  go_wp2_with (go_at_call 19; refine (begun_any _).mono ?_; rintro e w5 ⟨rfl, b5⟩)
  refine wp_region_quiet_below (by kernel_rfl) (by kernel_rfl) ?_
  repeat (go_big_quiet_step ((first
    | (go_at_call_of 20 (Value.string s); exact c1.quiet _ _ _)
    | (go_at_call 16; exact c4.quiet _ _ _))))
  refine wpQuiet_nil ?_
  intro w9 hw9
  obtain ⟨p, rfl⟩ := hw9
  have b9 := b5.then (ext_regrown w5 p)
  generalize Go.Sort.grow (redrawn w5 p.d) p.os = w6 at *
  go_wp2
  refine wp_region_quiet_below (by kernel_rfl) (by kernel_rfl) ?_
  repeat (go_big_quiet_step ((first
    | (go_at_call 23; exact (byteText_gives b hb).quiet _ _ _)
    | (go_at_call_of 20 (Value.string X); exact c3.quiet _ _ _))))
  refine wpQuiet_nil ?_
  intro w9 hw9
  obtain ⟨p, rfl⟩ := hw9
  go_wp2
  go_returns
  exact ⟨rfl, b9.then (ext_regrown w6 p)⟩
theorem rolls_any (s : ByteArray) (b : Nat) (w : World) (hs : s.size ≤ 1048576) (hb : b < 256) :
    Calls Try.prog 6 #[.string s, .int .u8 b] w fun e w' => e = .returned (.bool true) ∧ Ext w w' := by
  by_cases h0 : s.size = 0
  · have h0' : ((s.size : Int) == 0) = true := by simp [h0]
    go_enter Try.func6, Try.ntmps6
    go_wp2_with (go_at_call 19; refine (begun_any _).mono ?_; rintro e w5 ⟨rfl, b5⟩)
    go_returns
    exact ⟨rfl, b5⟩
  have hp : 0 < s.size := by omega
  have hs1 : s.data.toList = s[0] :: s.data.toList.drop 1 := by
    have := at_list s 0 hp; simpa using this
  have b1 := Adler.sum_lt (Adler.ad (Adler.halves 1) s.data.toList)
  have hr := Adler.more_rolls s[0] (UInt8.ofNat b) (s.data.toList.drop 1) (by simp; omega)
  rw [← hs1, ← ext_tail s 1] at hr
  have e1 : (s.extract 1 s.size).data.toList.length + 1 = s.size := by rw [ext_tail]; simp; omega
  have e2 : ((UInt8.ofNat b).toNat : Int) = b := by simp; omega
  rw [e1, e2, show ([UInt8.ofNat b] : List UInt8) = (ByteArray.mk #[UInt8.ofNat b]).data.toList from rfl, ← app_list] at hr
  have e3 : (ByteArray.mk #[UInt8.ofNat b]).size = 1 := rfl
  have h256 := s[0].toNat_lt
  refine rolls_core s _ b w hs hp hb _ _ rfl (of_gives s _ ?_ rfl) (of_gives _ _ ?_ rfl) (roll_gives _ _ _ _ _ ?_ ?_ ?_ ?_ ?_ ?_ ?_ hr)
  · unfold maxLen; omega
  · unfold maxLen; rw [ByteArray.size_append, e3, ByteArray.size_extract]; omega
  · unfold Adler.more; omega
  all_goals omega
end Go.Proofs.Ytiamfjfbmgijhaa
