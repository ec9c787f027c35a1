/- Bits: the document's own bitOf, PackedOf, PackOf: walks. -/
import Derived.Test.YtdblegdbfdhepaaBiw
import Derived.Test.YtdblegdbfdhepaaOnb
namespace Go.Proofs.Ytdblegdbfdhepaa
open Go.RowKit Hy
set_option maxHeartbeats 400000 in
theorem bitOf_any (l : List Nat) (A : Option Addr) (n cap wd b : Nat) (w : World) (hn : l.length = n) (hr : Rd w A (u64s l)) (hl : ∀ x ∈ l, x < 2 ^ wd) (hnl : n ≤ 2000000) (hwd : wd ≤ 64) (hb : b < n * wd) :
    Calls Try.prog 83 #[.slice A n cap, .int .i64 wd, .int .i64 b] w fun e w' => e = .returned (.int .i64 (Bits.num wd l / 2 ^ b % 2 : Nat)) ∧ w = w' := by
  have hw0 : 0 < wd := by rcases Nat.eq_zero_or_pos wd with rfl | h; (· simp at hb); exact h
  have hi : b / wd < n := by rw [Nat.div_lt_iff_lt_mul hw0]; exact hb
  have hka : b / wd < l.length := by rw [hn]; exact hi
  have hbit := Bits.num_bit wd l hl b (by rw [hn]; exact hb) hka
  obtain ⟨b1, o1, e1, l1, c1⟩ := hr.nums (b / wd) hka
  subst e1
  have d1 := c1 (b / wd) hka
  have h64 : 2 ^ wd ≤ 2 ^ 64 := Nat.pow_le_pow_right (by decide) hwd
  have hx : l[b / wd] < 18446744073709551616 := Nat.lt_of_lt_of_le (hl _ (List.getElem_mem hka)) h64
  generalize l[b / wd] = x at *
  obtain ⟨z, hz⟩ : ∃ z, z = Bits.num wd l / 2 ^ b % 2 := ⟨_, rfl⟩
  rw [← hz] at hbit ⊢
  have HB := hid hbit
  have hr1 : b % wd < wd := Nat.mod_lt _ hw0
  have hmI : (b : Int) % (wd : Int) = ((b % wd : Nat) : Int) := by simp
  have hdI : (b : Int) / (wd : Int) = ((b / wd : Nat) : Int) := by simp
  have hbI : (b : Int) ≤ 128000000 := by have : n * wd ≤ 2000000 * 64 := Nat.mul_le_mul hnl hwd; omega
  have hwI : (1 : Int) ≤ (wd : Int) := by omega
  have hxI : (x : Int) ≤ 18446744073709551615 := by omega
  have hiI : ((b / wd : Nat) : Int) < (n : Int) := by omega
  have hrI : ((b % wd : Nat) : Int) < 64 := by omega
  generalize b % wd = r at *
  generalize b / wd = i at *
  clear hl hr hb hka hbit hx c1 h64 hz hi hr1 hn
  go_enter Try.func83, Try.ntmps83
  go_wp2
  go_loop [7, 8] (fun a c => ∃ j : Nat, j ≤ r ∧ c = .int .i64 j ∧ a = .int .u64 (x / 2 ^ j : Nat)) (fun _ c => r - (intOf c).toNat)
  case atStart => exact ⟨0, Nat.zero_le _, rfl, by simp⟩
  case round =>
    obtain ⟨j, hj, rfl, rfl⟩ := hrel
    by_cases hlt : j < r
    · have HS := hid (show x / 2 ^ (j + 1) = x / 2 ^ j / 2 by rw [Nat.div_div_eq_div_mul, Nat.pow_succ])
      have hm : (x / 2 ^ j : Nat) ≤ x := Nat.div_le_self _ _
      generalize x / 2 ^ j = m at *
      have hmI2 : (m : Int) ≤ 18446744073709551615 := by omega
      clear hm
      go_wp2
      go_round
      case rel => exact ⟨j + 1, by omega, by go_num, by rw [HS.out]; go_num⟩
      case measure => simp [intOf]; omega
    · obtain rfl : j = r := by omega
      have hm : (x / 2 ^ j : Nat) ≤ x := Nat.div_le_self _ _
      generalize x / 2 ^ j = m at *
      have hmI2 : (m : Int) ≤ 18446744073709551615 := by omega
      clear hm
      go_wp2
      go_returns
      exact ⟨ret_int (by rw [← HB.out]; simp), rfl⟩
set_option maxHeartbeats 800000 in
theorem packedOf_any (l : List Nat) (A : Option Addr) (n cap wd : Nat) (w : World) (hn : l.length = n) (hr : Rd w A (u64s l)) (hl : ∀ x ∈ l, x < 2 ^ wd) (hnl : n ≤ 2000000) (hwd : wd ≤ 64) :
    Calls Try.prog 54 #[.slice A n cap, .int .i64 wd] w fun e w' => e = .returned (.string ⟨(Bits.packed l wd).toArray⟩) ∧ Ext w w' := by
  have hV := Bits.num_lt wd l hl
  have HC := hid (fun (b : Nat) (hb : b < n * wd) (wx : World) (hx : Ext w wx) => bitOf_any l A n cap wd b wx hn (hr.keep hx) hl hnl hwd hb)
  have hW := Bits.packed_eq l wd
  rw [hn] at hV hW
  have hall : n * wd ≤ 2000000 * 64 := Nat.mul_le_mul hnl hwd
  have hmul : (n : Int) * (wd : Int) = ((n * wd : Nat) : Int) := by simp
  have hsz : Bits.size n wd = (n * wd + 7) / 8 := rfl
  rw [hsz] at hW
  generalize n * wd = all at *
  generalize Bits.num wd l = V at *
  have HW := hid hW
  have HV := hid hV
  have haI : (all : Int) ≤ 128000000 := by omega
  clear hr hl hn hV hW hall hsz
  go_enter Try.func54, Try.ntmps54
  go_wp2
  go_loopw [5, 7, 8, 9] (fun v c _ _ wr => ∃ j : Nat, j ≤ (all + 7) / 8 ∧ c = .int .i64 (8 * j : Nat) ∧ v = .string ⟨(Bits.leb V j).toArray⟩ ∧ Ext w wr) (fun _ c _ _ _ => 200000000 - (intOf c).toNat)
  case atStart => exact ⟨0, Nat.zero_le _, rfl, rfl, ext_refl _⟩
  case round =>
    obtain ⟨j, hj, rfl, rfl, X⟩ := hrel
    obtain ⟨S, hS⟩ : ∃ S : ByteArray, S = ⟨(Bits.leb V j).toArray⟩ := ⟨_, rfl⟩
    have hSz : S.size = j := by rw [hS, str_size, Bits.leb_len]
    rw [← hS]
    have HS := hid hS
    clear hS
    have hjI : (j : Int) ≤ 16000001 := by omega
    obtain ⟨F, hF⟩ : ∃ F, F = 8 * j := ⟨_, rfl⟩
    rw [← hF]
    by_cases hlt : F < all
    · have HF := hid hF
      have hFI : (F : Int) ≤ 127999999 := by omega
      clear hF
      go_wp2
      go_loop [8, 9] (fun b k => ∃ i : Nat, i ≤ 8 ∧ k = .int .i64 ((i : Int) - 1) ∧ b = .int .i64 (V / 2 ^ (F + i) % 2 ^ (8 - i) : Nat)) (fun _ k => (intOf k + 1).toNat)
      case atStart => exact ⟨8, Nat.le_refl _, rfl, by rw [Nat.sub_self, Nat.pow_zero, Nat.mod_one]; rfl⟩
      case round =>
        obtain ⟨i, hi, rfl, rfl⟩ := hrel
        by_cases hi0 : 1 ≤ i
        · obtain ⟨q, rfl⟩ : ∃ q, i = q + 1 := ⟨i - 1, by omega⟩
          have hst := Bits.half_step V (F + q) (7 - q)
          rw [show 7 - q + 1 = 8 - q by omega, show F + q + 1 = F + (q + 1) by omega, show 7 - q = 8 - (q + 1) by omega] at hst
          have HST := hid hst
          have hlt2 : V / 2 ^ (F + (q + 1)) % 2 ^ (8 - (q + 1)) < 2 ^ (8 - (q + 1)) := Nat.mod_lt _ (Nat.two_pow_pos _)
          have h27 : 2 ^ (8 - (q + 1)) ≤ 2 ^ 7 := Nat.pow_le_pow_right (by decide) (by omega)
          have hqI : (q : Int) ≤ 7 := by omega
          have hq0 : (0 : Int) ≤ (q : Int) := by omega
          have hbz : ¬ (F + q < all) → V / 2 ^ (F + q) % 2 = 0 := fun h => by
            rw [Nat.div_eq_of_lt]
            exact Nat.lt_of_lt_of_le HV.out (Nat.pow_le_pow_right (by decide) (by omega))
          have hm2 : V / 2 ^ (F + q) % 2 < 2 := Nat.mod_lt _ (by decide)
          have CC := fun (h : F + q < all) (wx : World) (hx : Ext w wx) => hid (HC.out (F + q) h wx hx)
          generalize V / 2 ^ (F + (q + 1)) % 2 ^ (8 - (q + 1)) = p at *
          generalize V / 2 ^ (F + q) % 2 = z at *
          have hpI : (p : Int) ≤ 127 := by omega
          have hzI : (z : Int) ≤ 1 := by omega
          clear hst hlt2 h27 hm2
          by_cases hin : F + q < all
          · have C1 := CC hin
            have hinI : (F : Int) + (q : Int) < (all : Int) := by omega
            clear CC hbz hin
            go_wp2_with (go_at_call 83; refine (C1 _ X).out.mono ?_; rintro e w2 ⟨rfl, rfl⟩)
            go_round
            case rel => exact ⟨q, by omega, by go_num, by rw [HST.out]; go_num⟩
            case measure => simp [intOf]
          · have hz0 := hbz hin
            have hinI : ¬ (F : Int) + (q : Int) < (all : Int) := by omega
            subst hz0
            clear CC hbz hin
            go_wp2
            go_round
            case rel => exact ⟨q, by omega, by go_num, by rw [HST.out]; go_num⟩
            case measure => simp [intOf]
        · obtain rfl : i = 0 := by omega
          have hb : V / 2 ^ F % 256 < 256 := Nat.mod_lt _ (by decide)
          have HN := hid (show Bits.leb V (j + 1) = Bits.leb V j ++ [UInt8.ofNat (V / 2 ^ F % 256)] by rw [Bits.leb_snoc, Bits.p256, HF.out, ofNat_mod])
          rw [Nat.add_zero, Nat.sub_zero, show (2 : Nat) ^ 8 = 256 from rfl]
          generalize V / 2 ^ F % 256 = z at *
          have hzI : (z : Int) ≤ 255 := by omega
          clear hb
          obtain ⟨T, hT⟩ : ∃ T : ByteArray, T = ⟨#[UInt8.ofNat z]⟩ := ⟨_, rfl⟩
          have hTz : T.size = 1 := by rw [hT]; rfl
          have C1 : ∀ wx : World, Hid (Calls Try.prog 70 #[.int .i64 z] wx fun e w' => e = .returned (.string T) ∧ Ext wx w') := fun wx => by rw [hT]; exact hid (oneByte_any z wx (by omega) (by omega))
          have HTT := hid hT
          clear hT
          go_wp2_with (go_at_call 70; refine (C1 _).out.mono ?_; rintro e w2 ⟨rfl, b2⟩)
          go_roundw
          case rel => exact ⟨j + 1, by have := HF.out; omega, by rw [show 8 * (j + 1) = F + 8 by have := HF.out; omega]; go_num, by rw [HN.out, HS.out, HTT.out]; exact congrArg Value.string (str_app _ [UInt8.ofNat z]), X.then b2⟩
          case measure => simp [intOf]; omega
    · have e1 : j = (all + 7) / 8 := by omega
      have HE := hid e1
      have hltI : ¬ (F : Int) < (all : Int) := by omega
      clear e1 hF hlt
      go_wp2
      go_returns
      exact ⟨by rw [HW.out, ← HE.out, ← HS.out]; rfl, X⟩
end Go.Proofs.Ytdblegdbfdhepaa
