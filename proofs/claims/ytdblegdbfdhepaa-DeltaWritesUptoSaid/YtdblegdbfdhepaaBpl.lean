/- Bits: pull, check, Unpack, Get: walks. -/
import Derived.Test.YtdblegdbfdhepaaBiw
namespace Hy.Bits
open Go
theorem or_u64s (a x g : Nat) (ha : a < 2 ^ g) (hs : a + x * 2 ^ g < 2 ^ 64) : bits .or .u64 (a : Int) ((x * 2 ^ g : Nat) : Int) = ((a + x * 2 ^ g : Nat) : Int) := by
  have h3 : a ||| x * 2 ^ g = a + x * 2 ^ g := by
    have := Nat.two_pow_add_eq_or_of_lt (i := g) (b := a) ha x
    rw [Nat.or_comm, Nat.mul_comm x, ← this, Nat.add_comm]
  rw [or_u64 a (x * 2 ^ g) (by omega) (by omega), h3]
end Hy.Bits
namespace Go.Proofs.Ytdblegdbfdhepaa
open Go.RowKit Hy
set_option maxHeartbeats 800000 in
theorem pull_any (s : ByteArray) (fr wd : Nat) (w : World) (hwd : wd ≤ 64) (hfr : fr + wd ≤ 8 * s.size) (hz : s.size ≤ 1000000) :
    Calls Try.prog 100 #[.string s, .int .i64 fr, .int .i64 wd] w fun e w' => e = .returned (.int .u64 (Bits.le s.data.toList / 2 ^ fr % 2 ^ wd : Nat)) ∧ w = w' := by
  obtain ⟨V, hV⟩ : ∃ V, V = Bits.le s.data.toList := ⟨_, rfl⟩
  rw [← hV]
  have HV := hid hV
  clear hV
  go_enter Try.func100, Try.ntmps100
  go_wp2
  go_loop [1, 6, 7, 8, 9] (fun a b c _ _ => ∃ g : Nat, g ≤ wd ∧ c = .int .i64 g ∧ a = .int .i64 (fr + g : Nat) ∧ b = .int .u64 (V / 2 ^ fr % 2 ^ g : Nat)) (fun _ _ c _ _ => wd - (intOf c).toNat)
  case atStart => exact ⟨0, Nat.zero_le _, rfl, rfl, by rw [Nat.pow_zero, Nat.mod_one]; rfl⟩
  case round =>
    obtain ⟨g, hg, rfl, rfl, rfl⟩ := hrel
    by_cases hlt : g < wd
    · obtain ⟨F, hF⟩ : ∃ F, F = fr + g := ⟨_, rfl⟩
      rw [← hF]
      have hFb : F / 8 < s.size := by omega
      have hFl : F / 8 < s.data.toList.length := by rw [Array.length_toList]; exact hFb
      have hix := fun wx : World => run_ix (P := Try.prog) (w := wx) Try.underlying9 s .i64 (F / 8) s.data.toList[F / 8] (List.getElem?_eq_getElem hFl)
      have hcv := Bits.le_get s.data.toList (F / 8) hFl
      rw [← HV.out] at hcv
      have hc8 := s.data.toList[F / 8].toNat_lt
      simp only [Int.natCast_ediv, Int.cast_ofNat_Int] at hix
      generalize s.data.toList[F / 8].toNat = c at *
      obtain ⟨k, hk⟩ : ∃ k : Nat, min ((wd : Int) - (g : Int)) (8 - (F : Int) % 8) = (k : Int) := ⟨(min ((wd : Int) - (g : Int)) (8 - (F : Int) % 8)).toNat, by omega⟩
      have hk1 : 1 ≤ k := by omega
      have hk8 : F % 8 + k ≤ 8 := by omega
      have hkg : g + k ≤ wd := by omega
      have hbb := Bits.byte_bits V F k hk8
      rw [← hcv] at hbb
      have hq1 : (c : Int) / 2 ^ (F % 8) = ((c / 2 ^ (F % 8) : Nat) : Int) := by simp
      have hqle : c / 2 ^ (F % 8) ≤ c := Nat.div_le_self _ _
      have h2k : 2 ^ k ≤ 2 ^ 8 := Nat.pow_le_pow_right (by decide) (by omega)
      have h2p := Nat.two_pow_pos k
      have hw1 : IntKind.u64.wrap ((2 : Int) ^ k) = ((2 ^ k : Nat) : Int) := by
        show ((2 : Int) ^ k) % 18446744073709551616 = _
        rw [show (2 : Int) ^ k = ((2 ^ k : Nat) : Int) from by simp]; omega
      have hw2 : IntKind.u64.wrap (((2 ^ k : Nat) : Int) - 1) = ((2 ^ k : Nat) : Int) - 1 := by
        show (((2 ^ k : Nat) : Int) - 1) % 18446744073709551616 = _
        omega
      have hw3 := Bits.and_mask (c / 2 ^ (F % 8)) k (by omega) (by omega)
      rw [hbb] at hw3
      have hA : V / 2 ^ fr % 2 ^ g < 2 ^ g := Nat.mod_lt _ (Nat.two_pow_pos g)
      have hB : V / 2 ^ fr % 2 ^ (g + k) < 2 ^ (g + k) := Nat.mod_lt _ (Nat.two_pow_pos _)
      have htk := Bits.take_bits (V / 2 ^ fr) g k
      rw [Nat.div_div_eq_div_mul, ← Nat.pow_add, ← hF] at htk
      have h64 : 2 ^ (g + k) ≤ 2 ^ 64 := Nat.pow_le_pow_right (by decide) (by omega)
      have hw5 : IntKind.u64.wrap (((V / 2 ^ F % 2 ^ k : Nat) : Int) * 2 ^ g) = ((V / 2 ^ F % 2 ^ k * 2 ^ g : Nat) : Int) := by
        show (((V / 2 ^ F % 2 ^ k : Nat) : Int) * 2 ^ g) % 18446744073709551616 = _
        rw [show ((V / 2 ^ F % 2 ^ k : Nat) : Int) * (2 : Int) ^ g = ((V / 2 ^ F % 2 ^ k * 2 ^ g : Nat) : Int) from by simp]; omega
      have hw6 := Bits.or_u64s (V / 2 ^ fr % 2 ^ g) (V / 2 ^ F % 2 ^ k) g hA (by omega)
      rw [← htk] at hw6
      have HG := hid (Eq.refl (V / 2 ^ fr % 2 ^ (g + k)))
      obtain ⟨z, hze⟩ : ∃ z, z = V / 2 ^ fr % 2 ^ (g + k) := ⟨_, rfl⟩
      rw [← hze] at hw6 htk
      have HZ := hid hze
      obtain ⟨y, hye⟩ : ∃ y, y = V / 2 ^ F % 2 ^ k * 2 ^ g := ⟨_, rfl⟩
      rw [← hye] at hw5 hw6
      generalize V / 2 ^ F % 2 ^ k = x at *
      generalize V / 2 ^ fr % 2 ^ g = a at *
      obtain ⟨K2, hK2⟩ : ∃ K2 : Int, K2 = ((2 ^ k : Nat) : Int) := ⟨_, rfl⟩
      rw [← hK2] at hw1 hw2 hw3
      obtain ⟨b, hb⟩ : ∃ b, b = c / 2 ^ (F % 8) := ⟨_, rfl⟩
      rw [← hb] at hq1 hw3
      have hbI : (b : Int) ≤ 255 := by omega
      have hcI : (c : Int) ≤ 255 := by omega
      have hkI1 : (1 : Int) ≤ (k : Int) := by omega
      have hkI9 : (k : Int) ≤ 8 := by omega
      have hK1 : (1 : Int) ≤ K2 := by omega
      have hgI : (g : Int) < 64 := by omega
      have hzI : (z : Int) ≤ 18446744073709551615 := by omega
      have HF := hid hF
      have hF0 : (0 : Int) ≤ (F : Int) / 8 := by omega
      have hF1 : (F : Int) / 8 < (s.size : Int) := by omega
      have hF2 : (0 : Int) ≤ (F : Int) % 8 := by omega
      have hF3 : (F : Int) % 8 ≤ 7 := by omega
      clear hF hFl hcv hc8 hbb hqle h2k h2p hA hB htk h64 hze hye hK2 hb HG hk8 hk1
      go_wp2
      go_round
      case rel => exact ⟨g + k, hkg, by go_num, by rw [HF.out]; go_num, by rw [← HZ.out]⟩
      case measure => simp [intOf]; omega
    · obtain rfl : g = wd := by omega
      obtain ⟨z, hze⟩ : ∃ z, z = V / 2 ^ fr % 2 ^ g := ⟨_, rfl⟩
      rw [← hze]
      have HZ := hid hze
      clear hze
      go_wp2
      go_returns
      exact ⟨ret_int (by rw [HZ.out]; simp), rfl⟩
end Go.Proofs.Ytdblegdbfdhepaa
