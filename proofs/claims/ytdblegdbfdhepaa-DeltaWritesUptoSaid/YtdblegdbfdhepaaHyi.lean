/- Hybrid: the document's bitsAt: walk; plain laws of numbers read bit by bit. -/
import Derived.Test.YtdblegdbfdhepaaHys
import Derived.Test.YtdblegdbfdhepaaBuo
namespace Hy.Hyb
open Go
theorem le_take (T : List UInt8) (z : Nat) (h : z ≤ T.length) : Bits.le (T.take z) = Bits.le T % 256 ^ z := by
  have h1 := Bits.le_app (T.take z) (T.drop z)
  rw [List.take_append_drop, List.length_take, Nat.min_eq_left h] at h1
  have h2 := Bits.le_lt (T.take z)
  rw [List.length_take, Nat.min_eq_left h] at h2
  rw [h1, Nat.add_mul_mod_self_left, Nat.mod_eq_of_lt h2]
theorem take_slice (T : List UInt8) (z b k : Nat) (h : z ≤ T.length) (hb : b + k ≤ 8 * z) : Bits.le (T.take z) / 2 ^ b % 2 ^ k = Bits.le T / 2 ^ b % 2 ^ k := by
  rw [le_take T z h, Bits.p256]; exact Bits.mod_div_mod _ _ _ _ hb
/-- numbers of a text, from its first bit on -/
def nums (T : List UInt8) (many w : Nat) : List Nat := Bits.unp (T.take (Bits.size many w)) many w
theorem size_bits' (many w i : Nat) (hi : i < many) : i * w + w ≤ 8 * Bits.size many w := by
  have h1 : (i + 1) * w ≤ many * w := Nat.mul_le_mul_right _ hi
  rw [Nat.add_mul, Nat.one_mul] at h1
  unfold Bits.size
  generalize many * w = x at *
  omega
theorem nums_at (T : List UInt8) (many w i : Nat) (h : Bits.size many w ≤ T.length) (hi : i < many) : (nums T many w)[i]? = some (Bits.le T / 2 ^ (i * w) % 2 ^ w) := by
  have hb := size_bits' many w i hi
  unfold nums
  rw [List.getElem?_eq_getElem (by rw [Bits.unp_len]; exact hi), Bits.unp_get _ _ _ _ hi, take_slice T _ _ _ h hb]
theorem nums_len (T : List UInt8) (many w : Nat) : (nums T many w).length = many := Bits.unp_len _ _ _
theorem nmb_good (T : List UInt8) (many w : Nat) (h : Bits.size many w ≤ T.length) (hw : w ≤ 64) (hm : many ≤ 64) (hz : ∀ b, many * w ≤ b → b < 8 * Bits.size many w → Bits.le T / 2 ^ b % 2 = 0) :
    nmb w many T = (nums T many w, 0, T.drop (Bits.size many w)) := by
  have hl : (T.take (Bits.size many w)).length = Bits.size many w := by rw [List.length_take]; omega
  have hv : Bits.le (T.take (Bits.size many w)) < 2 ^ (many * w) := by
    refine Bits.bit_zero _ _ (8 * Bits.size many w) (fun b h1 h2 => ?_) ?_
    · have := take_slice T (Bits.size many w) b 1 h (by omega)
      rw [Nat.pow_one] at this
      rw [this]; exact hz b h1 h2
    · have := Bits.le_lt (T.take (Bits.size many w))
      rw [hl, Bits.p256] at this; exact this
  have hc := Bits.chk_of hw hm hl hv
  rw [nmb_some (by omega), hc, Bits.up_ok _ _ _ hc]; simp [nums]
theorem nmb_form (T : List UInt8) (many w b : Nat) (h : Bits.size many w ≤ T.length) (hw : w ≤ 64) (hm : many ≤ 64) (h1 : many * w ≤ b) (h2 : b < 8 * Bits.size many w) (hb : Bits.le T / 2 ^ b % 2 = 1) :
    (nmb w many T).2.1 = 1 := by
  have hl : (T.take (Bits.size many w)).length = Bits.size many w := by rw [List.length_take]; omega
  have := take_slice T (Bits.size many w) b 1 h (by omega)
  rw [Nat.pow_one] at this
  rw [nmb_some (by omega)]
  exact Bits.chk_rest hw hm (Bits.bit_one _ _ b h1 (by rw [this]; exact hb))
end Hy.Hyb
namespace Go.Proofs.Ytdblegdbfdhepaa
open Go.RowKit Hy
set_option maxHeartbeats 400000 in
theorem bitsAt_any (s : ByteArray) (fr k : Nat) (w : World) (hk : k ≤ 64) (hf : fr + k ≤ 8 * s.size) (hl : fr + k ≤ 1000000) :
    Calls Try.prog 59 #[.string s, .int .i64 fr, .int .i64 k] w fun e w' => e = .returned (.int .u64 (Bits.le s.data.toList / 2 ^ fr % 2 ^ k : Nat)) ∧ w = w' := by
  have HT := hid (fun (b : Nat) (hb : b < fr + k) (wx : World) => textBit_any s b wx (by omega) (by omega))
  obtain ⟨V, hV⟩ : ∃ V, V = Bits.le s.data.toList := ⟨_, rfl⟩
  rw [← hV]
  simp only [← hV] at HT
  have hkI : (k : Int) ≤ 64 := by omega
  have hfI : (fr : Int) ≤ 1000000 := by omega
  have HK := hid hk
  clear hV hf hl hk
  go_enter Try.func59, Try.ntmps59
  go_wp2
  go_loop [7, 8] (fun a q => ∃ j : Nat, j ≤ k ∧ q = .int .i64 ((j : Int) - 1) ∧ a = .int .u64 (V / 2 ^ (fr + j) % 2 ^ (k - j) : Nat)) (fun _ q => (intOf q + 1).toNat)
  case atStart => exact ⟨k, Nat.le_refl _, rfl, by rw [Nat.sub_self, Nat.pow_zero, Nat.mod_one]; rfl⟩
  case round =>
    obtain ⟨j, hj, rfl, rfl⟩ := hrel
    by_cases hj0 : 1 ≤ j
    · obtain ⟨q, rfl⟩ : ∃ q, j = q + 1 := ⟨j - 1, by omega⟩
      have hst := Bits.half_step V (fr + q) (k - (q + 1))
      rw [show k - (q + 1) + 1 = k - q by omega, show fr + q + 1 = fr + (q + 1) by omega] at hst
      have HST := hid hst
      have hlt2 : V / 2 ^ (fr + (q + 1)) % 2 ^ (k - (q + 1)) < 2 ^ (k - (q + 1)) := Nat.mod_lt _ (Nat.two_pow_pos _)
      have h63 : 2 ^ (k - (q + 1)) ≤ 2 ^ 63 := Nat.pow_le_pow_right (by decide) (by have := HK.out; omega)
      have hm2 : V / 2 ^ (fr + q) % 2 < 2 := Nat.mod_lt _ (by decide)
      have CT := fun wx : World => hid (HT.out (fr + q) (by omega) wx)
      generalize V / 2 ^ (fr + (q + 1)) % 2 ^ (k - (q + 1)) = p at *
      generalize V / 2 ^ (fr + q) % 2 = z at *
      have hpI : (p : Int) ≤ 9223372036854775807 := by omega
      have hzI2 : (z : Int) ≤ 1 := by omega
      have hqI : (q : Int) ≤ 63 := by have := HK.out; omega
      have hq0 : (0 : Int) ≤ (q : Int) := by omega
      clear hst hlt2 h63 hm2
      go_wp2_with (go_at_call 58; refine (CT _).out.mono ?_; rintro e w2 ⟨rfl, rfl⟩)
      go_round
      case rel => exact ⟨q, by omega, by go_num, by rw [HST.out]; go_num⟩
      case measure => simp [intOf]
    · obtain rfl : j = 0 := by omega
      go_wp2
      go_returns
      exact ⟨rfl, rfl⟩
end Go.Proofs.Ytdblegdbfdhepaa
