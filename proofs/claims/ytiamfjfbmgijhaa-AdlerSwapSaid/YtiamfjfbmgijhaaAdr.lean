/- The walks of the document's Adler functions. -/
import Derived.Test.YtiamfjfbmgijhaaAdx
namespace Go.Proofs.Ytiamfjfbmgijhaa
open Go.RowKit Hy

set_option maxHeartbeats 400000 in
theorem rjoined_no (a b n : Int) (w : World) (h : n < 0 ∨ 2147483647 < n) :
    Calls Try.prog 17 #[.int .u32 a, .int .u32 b, .int .i64 n] w fun e w' => e = .returned (.tuple #[.int .u32 0, .int .i64 3]) ∧ w = w' := by
  rcases h with h | h
  all_goals
    go_enter Try.func17, Try.ntmps17
    go_wp2
    go_returns
    exact ⟨rfl, rfl⟩
set_option maxHeartbeats 400000 in
theorem rjoined_yes (a b n : Int) (w : World) (h0 : 0 ≤ n) (h1 : n ≤ 2147483647) (ha : 0 ≤ a) (ha' : a < 4294967296) (hb : 0 ≤ b) (hb' : b < 4294967296) :
    Calls Try.prog 17 #[.int .u32 a, .int .u32 b, .int .i64 n] w fun e w' => e = .returned (.tuple #[.int .u32 (Adler.joined a b n), .int .i64 0]) ∧ w = w' := by
  obtain ⟨m0, m1⟩ := Adler.mul_bd (n % 65521) ((a % 65536 + 65520) % 65521) _ (by omega) (by omega) (by omega) (by omega) (Int.le_refl _)
  go_enter Try.func17, Try.ntmps17
  go_wp2
  go_returns
  refine ⟨ret_int2 ?_ rfl, rfl⟩
  unfold Adler.joined Adler.lo Adler.up
  have e : (a % 65536 % 65521 + 65520) % 65521 = (a % 65536 + 65520) % 65521 := by omega
  rw [e]
set_option maxHeartbeats 400000 in
theorem rolled_yes (a n x y : Int) (w : World) (h0 : 1 ≤ n) (h1 : n ≤ 2147483647) (ha : 0 ≤ a) (ha' : a < 4294967296) (hx : 0 ≤ x) (hx' : x < 256) (hy : 0 ≤ y) (hy' : y < 256) :
    Calls Try.prog 18 #[.int .u32 a, .int .i64 n, .int .u8 x, .int .u8 y] w fun e w' => e = .returned (.tuple #[.int .u32 (Adler.rolled a n x y), .int .i64 0]) ∧ w = w' := by
  obtain ⟨m0, m1⟩ := Adler.mul_bd (n % 65521) x 2147483647 (by omega) (by omega) (by omega) (by omega) (Int.le_refl _)
  go_enter Try.func18, Try.ntmps18
  go_wp2
  go_returns
  exact ⟨ret_int2 rfl rfl, rfl⟩
theorem rolled_no (a n x y : Int) (w : World) (h : n < 1 ∨ 2147483647 < n) :
    Calls Try.prog 18 #[.int .u32 a, .int .i64 n, .int .u8 x, .int .u8 y] w fun e w' => e = .returned (.tuple #[.int .u32 0, .int .i64 3]) ∧ w = w' := by
  rcases h with h | h
  all_goals
    go_enter Try.func18, Try.ntmps18
    go_wp2
    go_returns
    exact ⟨rfl, rfl⟩
theorem byteText_any (b : Nat) (w : World) (h1 : b < 256) :
    Calls Try.prog 23 #[.int .u8 b] w fun e w' => e = .returned (.string ⟨#[UInt8.ofNat b]⟩) ∧ Ext w w' := by
  have hcv := run_str1 (P := Try.prog) Try.underlying61 Try.underlying5 Try.underlying9 b h1
  go_enter Try.func23, Try.ntmps23
  go_wp2
  go_returns
  exact ⟨rfl, (ext_refl _).new _⟩
set_option maxHeartbeats 400000 in
theorem adlerOf_any (c : Nat) (s : ByteArray) (w : World) (h1 : (c : Int) < 4294967296) (hs : s.size ≤ 140737488351232) :
    Calls Try.prog 21 #[.int .u32 c, .string s] w fun e w' => e = .returned (.int .u32 (Adler.more c s.data.toList)) ∧ w = w' := by
  obtain ⟨g1, g2⟩ := Adler.halves_lt c
  obtain ⟨m0, m1⟩ := Adler.mul_bd ((s.size : Int) % 65521) ((c : Int) % 65536 % 65521) 2147483647 (by omega) (by omega) (by omega) (by omega) (Int.le_refl _)
  go_enter Try.func21, Try.ntmps21
  go_wp2
  go_loop [5, 6, 8] (fun a b i => ∃ k u : Nat, k ≤ s.size ∧ i = .int .i64 k ∧ a = .int .u64 ((Adler.halves c).1 + Adler.tot (s.data.toList.take k) : Nat) ∧ b = .int .u64 u ∧ u ≤ 140737488351232 ∧ Hid (u % 65521 = ((Adler.halves c).2 + s.size % 65521 * (Adler.halves c).1 + Adler.wt s.size (s.data.toList.take k)) % 65521))
     (fun _ _ i => s.size - (intOf i).toNat)
  case atStart => exact ⟨0, (Adler.halves c).2 + s.size % 65521 * (Adler.halves c).1, Nat.zero_le _, rfl, by go_num, by go_num, by
    have : s.size % 65521 * (Adler.halves c).1 ≤ 65520 * 65520 := Nat.mul_le_mul (by omega) (by omega)
    omega, by simp [Hid, Adler.wt]⟩
  case round =>
    obtain ⟨k, u, hk, rfl, rfl, rfl, hu, HU⟩ := hrel
    have ht := Adler.tot_le (s.data.toList.take k)
    have hl : (s.data.toList.take k).length = k := by simp; omega
    have HS : Hid (∀ h : k < s.size, Adler.tot (s.data.toList.take (k + 1)) = Adler.tot (s.data.toList.take k) + s[k].toNat ∧ Adler.wt s.size (s.data.toList.take (k + 1)) = Adler.wt s.size (s.data.toList.take k) + (s.size - k) % 65521 * s[k].toNat) := fun h => by
      rw [take_snoc s k h, Adler.tot_snoc, Adler.wt_snoc, hl]; exact ⟨rfl, rfl⟩
    have HE : Hid (k = s.size → u % 65521 * 65536 + ((Adler.halves c).1 + Adler.tot (s.data.toList.take k)) % 65521 = Adler.more c s.data.toList) := fun h => by
      subst h
      have e := HU.out
      rw [take_all] at e ⊢
      exact Adler.more_wt c u _ (by simpa using e)
    rw [hl] at ht
    generalize Adler.tot (s.data.toList.take k) = T at *
    generalize Adler.wt s.size (s.data.toList.take k) = W at *
    clear hl
    by_cases hlt : k < s.size
    · have hx : s[k].toNat < 256 := s[k].toNat_lt
      obtain ⟨n0, n1⟩ := Adler.mul_bd (((s.size : Int) - k) % 65521) (s[k].toNat : Int) 2147483647 (by omega) (by omega) (by omega) (by omega) (Int.le_refl _)
      go_wp2
      go_round
      case rel =>
        refine ⟨k + 1, (u + (s.size - k) % 65521 * s[k].toNat) % 65521, by omega, by go_num, ?_, ?_, by omega, ?_⟩
        · rw [(HS.out hlt).1]; go_num
        · refine congrArg _ ?_
          have e : (s.size : Int) - (k : Int) = ((s.size - k : Nat) : Int) := by omega
          rw [e]; rfl
        · have e := HU.out
          have e2 := (HS.out hlt).2
          unfold Hid
          rw [e2]; omega
      case measure => simp [intOf]; omega
    · go_wp2
      go_returns
      refine ⟨ret_int ?_, rfl⟩
      rw [← HE.out (by omega)]; omega
end Go.Proofs.Ytiamfjfbmgijhaa
