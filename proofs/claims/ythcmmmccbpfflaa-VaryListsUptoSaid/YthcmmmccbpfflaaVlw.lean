/- Vary: the laws, walked. -/
import Derived.Test.YthcmmmccbpfflaaVbg
namespace Go.Proofs.Ythcmmmccbpfflaa
open Go.RowKit Hy
set_option maxHeartbeats 1000000 in
theorem varyTells_walk (n : Nat) (s : ByteArray) (w : World) (hn : n < 18446744073709551616) (hs : s.size ≤ 281474976710656) :
    Calls Try.prog 3 #[.int .u64 n, .string s] w fun e w' => e = .returned (.bool true) ∧ Ext w w' := by
  have H1 := fun wx : World => hid (read_any s wx)
  have H2 := fun wx : World => hid (varyOf_any s wx hs)
  have H3 := fun wx : World => hid (write_any n wx hn)
  have H4 := fun wx : World => hid (varyBytes_any n wx hn)
  generalize (Vary.rd s.data.toList).1 = a at *
  generalize (Vary.rd s.data.toList).2.1 = b at *
  generalize (Vary.rd s.data.toList).2.2 = c at *
  generalize (Vary.wr n).toArray = q at *
  go_enter Try.func3, Try.ntmps3
  go_wp2_with (first
    | (go_at_call 16; refine (H1 _).out.mono ?_; rintro e w1 ⟨rfl, b1⟩)
    | (go_at_call 17; refine (H2 _).out.mono ?_; rintro e w2 ⟨rfl, b2⟩)
    | (go_at_call 18; refine (varyBegun_any _).mono ?_; rintro e w3 ⟨rfl, b3⟩)
    | (go_at_call 19; refine (H3 _).out.mono ?_; rintro e w4 ⟨rfl, b4⟩)
    | (go_at_call 20; refine (H4 _).out.mono ?_; rintro e w5 ⟨rfl, b5⟩))
  go_returns
  exact ⟨rfl, (((b1.then b2).then b3).then b4).then b5⟩
set_option maxHeartbeats 1000000 in
theorem varyOnly_walk (s : ByteArray) (w : World) : Calls Try.prog 4 #[.string s] w fun e w' => e = .returned (.bool true) ∧ Ext w w' := by
  have H1 := fun wx : World => hid (read_any s wx)
  rcases Vary.rd_cases s.data.toList with e | e | ⟨n, k, e, h8, hk, hn, hw⟩
  · simp only [e] at H1
    clear e
    go_enter Try.func4, Try.ntmps4
    go_wp2_with (first
      | (go_at_call 16; refine (H1 _).out.mono ?_; rintro e w1 ⟨rfl, b1⟩)
      | (go_at_call 18; refine (varyBegun_any _).mono ?_; rintro e w3 ⟨rfl, b3⟩))
    go_returns
    exact ⟨rfl, b1.then b3⟩
  · simp only [e] at H1
    clear e
    go_enter Try.func4, Try.ntmps4
    go_wp2_with (first
      | (go_at_call 16; refine (H1 _).out.mono ?_; rintro e w1 ⟨rfl, b1⟩)
      | (go_at_call 18; refine (varyBegun_any _).mono ?_; rintro e w3 ⟨rfl, b3⟩))
    go_returns
    exact ⟨rfl, b1.then b3⟩
  · simp only [e] at H1
    rw [Array.length_toList] at hk
    have hk' : k + 1 ≤ s.size := hk
    have hT := fun wx : World => run_to (P := Try.prog) (w := wx) Try.underlying9 s .i64 (k + 1) hk'
    have G19 : Gives Try.prog 19 #[.int .u64 n] (.string ⟨(s.data.toList.take (k + 1)).toArray⟩) := fun wx => by rw [← hw]; exact write_any n wx hn
    obtain ⟨T, hTT⟩ : ∃ T : ByteArray, T = ⟨(s.data.toList.take (k + 1)).toArray⟩ := ⟨_, rfl⟩
    rw [← hTT] at hT G19
    simp only [Int.natCast_add, Int.cast_ofNat_Int] at hT
    have hd1 : (1 : Int) ≤ (k : Int) + 1 := by omega
    have hd2 : (k : Int) + 1 ≤ (s.size : Int) := by omega
    clear e hw hTT h8 hk
    go_enter Try.func4, Try.ntmps4
    go_wp2_with (first
      | (go_at_call 16; refine (H1 _).out.mono ?_; rintro e w1 ⟨rfl, b1⟩)
      | (go_at_call 18; refine (varyBegun_any _).mono ?_; rintro e w3 ⟨rfl, b3⟩))
    refine wp_region_quiet_below (by kernel_rfl) (by kernel_rfl) ?_
    repeat (go_big_quiet_step ((go_at_call 19; exact G19.quiet _ _ _)))
    refine wpQuiet_nil ?_
    intro w9 hw9
    obtain ⟨p, rfl⟩ := hw9
    go_wp2
    go_returns
    exact ⟨rfl, (b1.then b3).then (ext_regrown _ p)⟩
set_option maxHeartbeats 1000000 in
theorem varyOrder_walk (a b : Nat) (w : World) (ha : a < 18446744073709551616) (hb : b < 18446744073709551616) : Calls Try.prog 5 #[.int .u64 a, .int .u64 b] w fun e w' => e = .returned (.bool true) ∧ Ext w w' := by
  have H1 := fun wx : World => hid (write_any a wx ha)
  have H2 := fun wx : World => hid (write_any b wx hb)
  have hl := Vary.wr_less_iff a b ha hb
  obtain ⟨A, hA⟩ : ∃ A : ByteArray, A = ⟨(Vary.wr a).toArray⟩ := ⟨_, rfl⟩
  obtain ⟨B, hB⟩ : ∃ B : ByteArray, B = ⟨(Vary.wr b).toArray⟩ := ⟨_, rfl⟩
  have hl' : Op.bytesLess A.toList B.toList = decide (a < b) := by rw [hA, hB, ByteArray.toList_mk, ByteArray.toList_mk, hl]
  rw [← hA] at H1
  rw [← hB] at H2
  clear hA hB hl
  by_cases hab : a < b
  · rw [decide_eq_true hab] at hl'
    have h1 : decide ((a : Int) < (b : Int)) = true := by simpa using hab
    go_enter Try.func5, Try.ntmps5
    go_wp2_with fail
    refine (varyBegun_any _).mono ?_
    rintro e w1 ⟨rfl, b1⟩
    go_wp2_with fail
    refine (H1 _).out.mono ?_
    rintro e w2 ⟨rfl, b2⟩
    go_wp2_with fail
    refine (H2 _).out.mono ?_
    rintro e w3 ⟨rfl, b3⟩
    go_wp2_with fail
    go_returns
    exact ⟨rfl, (b1.then b2).then b3⟩
  · rw [decide_eq_false hab] at hl'
    have h1 : decide ((a : Int) < (b : Int)) = false := by simpa using hab
    go_enter Try.func5, Try.ntmps5
    go_wp2_with fail
    refine (varyBegun_any _).mono ?_
    rintro e w1 ⟨rfl, b1⟩
    go_wp2_with fail
    refine (H1 _).out.mono ?_
    rintro e w2 ⟨rfl, b2⟩
    go_wp2_with fail
    refine (H2 _).out.mono ?_
    rintro e w3 ⟨rfl, b3⟩
    go_wp2_with fail
    go_returns
    exact ⟨rfl, (b1.then b2).then b3⟩
set_option maxHeartbeats 1000000 in
theorem varyCut_walk (n : Nat) (k : Int) (w : World) (hn : n < 18446744073709551616) (hk1 : -9223372036854775808 ≤ k) (hk2 : k ≤ 9223372036854775807) : Calls Try.prog 6 #[.int .u64 n, .int .i64 k] w fun e w' => e = .returned (.bool true) ∧ Ext w w' := by
  have H1 := fun wx : World => hid (write_any n wx hn)
  have HC := hid (Vary.rd_cut n)
  obtain ⟨q, hq⟩ : ∃ q, q = Vary.wr n := ⟨_, rfl⟩
  obtain ⟨A, hA⟩ : ∃ A : ByteArray, A = ⟨q.toArray⟩ := ⟨_, rfl⟩
  have hz : A.size = q.length := by rw [hA, str_size]
  rw [← hq] at H1 HC
  rw [← hA] at H1
  have HQ := hid hA
  clear hA hq
  by_cases h1 : k < 0
  · clear hz
    go_enter Try.func6, Try.ntmps6
    go_wp2_with (first
      | (go_at_call 19; refine (H1 _).out.mono ?_; rintro e w1 ⟨rfl, b1⟩)
      | (go_at_call 18; refine (varyBegun_any _).mono ?_; rintro e w3 ⟨rfl, b3⟩))
    go_returns
    exact ⟨rfl, b1.then b3⟩
  · obtain ⟨j, rfl⟩ := Int.eq_ofNat_of_zero_le (show 0 ≤ k by omega)
    by_cases h2 : (A.size : Int) ≤ (j : Int)
    · clear hz
      go_enter Try.func6, Try.ntmps6
      go_wp2_with (first
        | (go_at_call 19; refine (H1 _).out.mono ?_; rintro e w1 ⟨rfl, b1⟩)
        | (go_at_call 18; refine (varyBegun_any _).mono ?_; rintro e w3 ⟨rfl, b3⟩))
      go_returns
      exact ⟨rfl, b1.then b3⟩
    · have hT := fun wx : World => run_to (P := Try.prog) (w := wx) Try.underlying9 A .i64 j (by omega)
      have e : A.data.toList = q := by rw [HQ.out]
      rw [e] at hT
      have H2 := read_of (q.take j) 0 0 5 (HC.out j hn (by omega))
      obtain ⟨B, hB⟩ : ∃ B : ByteArray, B = ⟨(q.take j).toArray⟩ := ⟨_, rfl⟩
      rw [← hB] at hT H2
      have HB := fun wx : World => hid (H2 wx)
      clear H2 hB hz e
      go_enter Try.func6, Try.ntmps6
      go_wp2_with (first
        | (go_at_call 19; refine (H1 _).out.mono ?_; rintro e w1 ⟨rfl, b1⟩)
        | (go_at_call 18; refine (varyBegun_any _).mono ?_; rintro e w3 ⟨rfl, b3⟩)
        | (go_at_call 16; refine (HB _).out.mono ?_; rintro e w4 ⟨rfl, b4⟩))
      go_returns
      exact ⟨rfl, (b1.then b3).then b4⟩
end Go.Proofs.Ythcmmmccbpfflaa
