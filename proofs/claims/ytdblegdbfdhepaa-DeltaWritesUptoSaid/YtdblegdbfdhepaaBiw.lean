/- Bits: Width, wide, size; the document's fits, WidthOf: walks. -/
import Derived.Test.YtdblegdbfdhepaaRows
import Derived.Test.YtdblegdbfdhepaaBip
import Derived.Test.YtdblegdbfdhepaaRow
import Derived.Test.YtdblegdbfdhepaaShelf
namespace Hy
open Go
theorem or_u64 (a b : Nat) (ha : a < 2 ^ 64) (hb : b < 2 ^ 64) : bits .or .u64 (a : Int) (b : Int) = ((a ||| b : Nat) : Int) := by
  have h1 : (BitVec.ofInt 64 (a : Int)).toNat = a := by rw [BitVec.ofInt_natCast, BitVec.toNat_ofNat]; exact Nat.mod_eq_of_lt ha
  have h2 : (BitVec.ofInt 64 (b : Int)).toNat = b := by rw [BitVec.ofInt_natCast, BitVec.toNat_ofNat]; exact Nat.mod_eq_of_lt hb
  have h3 : a ||| b < 2 ^ 64 := Nat.or_lt_two_pow ha hb
  show IntKind.u64.wrap ((BitVec.ofInt 64 (a : Int) ||| BitVec.ofInt 64 (b : Int)).toNat : Int) = _
  rw [BitVec.toNat_or, h1, h2]
  show ((a ||| b : Nat) : Int) % 18446744073709551616 = _
  omega
end Hy
namespace Go.Proofs.Ytdblegdbfdhepaa
open Go.RowKit Hy
set_option maxHeartbeats 400000 in
theorem width_any (l : List Nat) (A : Option Addr) (n cap : Nat) (w : World) (hn : l.length = n) (hr : Rd w A (u64s l)) (hl : ∀ x ∈ l, x < 18446744073709551616) (hnl : n ≤ 9223372036854775806) :
    Calls Try.prog 61 #[.slice A n cap] w fun e w' => e = .returned (.int .i64 (Bits.width l)) ∧ w = w' := by
  have HN := hid hn
  have HA := hid hr
  have HB := hid hl
  have HBL := hid (Bits.bitLen_orAll l hl)
  have HOA := hid ((Bits.orAll_lt_iff l 64).2 hl)
  clear hr hl hn
  go_enter Try.func61, Try.ntmps61
  go_wp2
  go_loop [3, 5, 8] (fun v _ c => ∃ k : Nat, k ≤ n ∧ c = .int .i64 k ∧ v = .int .u64 (Bits.orAll (l.take k) : Nat)) (fun _ _ c => n - (intOf c).toNat)
  case atStart => exact ⟨0, Nat.zero_le _, rfl, rfl⟩
  case round =>
    obtain ⟨k, hk, rfl, rfl⟩ := hrel
    by_cases hlt : k < n
    · have hka : k < l.length := by rw [HN.out]; exact hlt
      obtain ⟨b1, o1, e1, l1, c1⟩ := HA.out.nums k hka
      subst e1
      have d1 := c1 k hka
      have HS := hid (show Bits.orAll (l.take (k + 1)) = Bits.orAll (l.take k) ||| l[k] by rw [List.take_succ_eq_append_getElem hka, Bits.orAll_snoc])
      have hx := HB.out l[k] (List.getElem_mem hka)
      have hy : Bits.orAll (l.take k) < 2 ^ 64 := (Bits.orAll_lt_iff _ 64).2 fun m hm => HB.out m (List.mem_of_mem_take hm)
      have ho := or_u64 (Bits.orAll (l.take k)) l[k] hy hx
      clear c1 hx hy
      generalize l[k] = x at *
      generalize Bits.orAll (l.take k) = p at *
      clear hka
      go_wp2
      go_round
      case rel => exact ⟨k + 1, by omega, by go_num, by rw [HS.out]⟩
      case measure => simp [intOf]; omega
    · obtain rfl : k = n := by omega
      have e1 : l.take k = l := List.take_of_length_le (by rw [HN.out]; exact Nat.le_refl _)
      rw [e1]
      have hb := HOA.out
      have C := fun wx : World => hid (Try.bits_Len64 (Bits.orAll l : Nat) wx (by omega) (by omega))
      simp only [Int.toNat_natCast, HBL.out] at C
      generalize Bits.orAll l = p at *
      obtain ⟨q, hq⟩ : ∃ q, q = Bits.width l := ⟨_, rfl⟩
      rw [← hq] at C
      have HQ := hid hq
      clear e1 hb hq
      go_wp2_with (go_at_call 87; refine (C _).out.mono ?_; rintro e w2 ⟨rfl, rfl⟩)
      go_returns
      exact ⟨by rw [← HQ.out]; rfl, rfl⟩
theorem wide_any (k : Int) (w : World) : Calls Try.prog 60 #[.int .i64 k] w fun e w' => e = .returned (.bool (decide (0 ≤ k ∧ k ≤ 64))) ∧ w = w' := by
  by_cases h1 : 0 ≤ k
  · by_cases h2 : k ≤ 64
    · have e1 : decide (0 ≤ k ∧ k ≤ 64) = true := decide_eq_true ⟨h1, h2⟩
      rw [e1]
      go_enter Try.func60, Try.ntmps60
      go_wp2
      go_returns
      exact ⟨rfl, rfl⟩
    · have e1 : decide (0 ≤ k ∧ k ≤ 64) = false := decide_eq_false fun h => h2 h.2
      rw [e1]
      go_enter Try.func60, Try.ntmps60
      go_wp2
      go_returns
      exact ⟨rfl, rfl⟩
  · have e1 : decide (0 ≤ k ∧ k ≤ 64) = false := decide_eq_false fun h => h1 h.1
    rw [e1]
    go_enter Try.func60, Try.ntmps60
    go_wp2
    go_returns
    exact ⟨rfl, rfl⟩
theorem size_any (many wd : Nat) (w : World) (h1 : many ≤ 1000000) (h2 : wd ≤ 1000000) : Calls Try.prog 102 #[.int .i64 many, .int .i64 wd] w fun e w' => e = .returned (.int .i64 (Bits.size many wd)) ∧ w = w' := by
  have hp : many * wd ≤ 1000000 * 1000000 := Nat.mul_le_mul h1 h2
  have hpI : (many : Int) * (wd : Int) ≤ 1000000000000 := by rw [← Int.natCast_mul]; omega
  have hp0 : 0 ≤ (many : Int) * (wd : Int) := by rw [← Int.natCast_mul]; omega
  have HS := hid (show (Bits.size many wd : Int) = ((many : Int) * (wd : Int) + 7) / 8 by unfold Bits.size; simp)
  clear hp h1 h2
  go_enter Try.func102, Try.ntmps102
  go_wp2
  go_returns
  exact ⟨ret_int (by rw [HS.out]), rfl⟩
theorem pow2_any (k : Nat) (w : World) (hk : k ≤ 63) : Calls Try.prog 91 #[.int .i64 k] w fun e w' => e = .returned (.int .u64 (2 ^ k : Nat)) ∧ w = w' := by
  go_enter Try.func91, Try.ntmps91
  go_wp2
  go_loop [3, 4] (fun a c => ∃ i : Nat, i ≤ k ∧ c = .int .i64 i ∧ a = .int .u64 (2 ^ i : Nat)) (fun _ c => k - (intOf c).toNat)
  case atStart => exact ⟨0, Nat.zero_le _, rfl, rfl⟩
  case round =>
    obtain ⟨i, hi, rfl, rfl⟩ := hrel
    by_cases hlt : i < k
    · have HS := hid (Nat.pow_succ 2 i)
      have hp : 2 ^ i ≤ 2 ^ 62 := Nat.pow_le_pow_right (by decide) (by omega)
      have hpI : ((2 ^ i : Nat) : Int) ≤ 4611686018427387904 := by omega
      clear hp
      generalize (2 : Nat) ^ i = p at *
      go_wp2
      go_round
      case rel => exact ⟨i + 1, by omega, by go_num, by rw [HS.out]; go_num⟩
      case measure => simp [intOf]; omega
    · obtain rfl : i = k := by omega
      obtain ⟨p, hp⟩ : ∃ p, p = (2 : Nat) ^ i := ⟨_, rfl⟩
      rw [← hp]
      have HP := hid hp
      clear hp
      go_wp2
      go_returns
      exact ⟨ret_int (by rw [HP.out]; simp), rfl⟩
theorem fits_any (x k : Nat) (w : World) (hx : x < 18446744073709551616) (hk : k ≤ 9223372036854775806) : Calls Try.prog 69 #[.int .u64 x, .int .i64 k] w fun e w' => e = .returned (.bool (Bits.fitsB x k)) ∧ w = w' := by
  by_cases h64 : 64 ≤ k
  · have HF := hid (Bits.fitsB_true (Nat.le_trans (Bits.bitLen_le64 x hx) h64))
    have h1 : (64 : Int) ≤ (k : Int) := by omega
    clear h64
    go_enter Try.func69, Try.ntmps69
    go_wp2
    go_returns
    exact ⟨by rw [HF.out]; rfl, rfl⟩
  · have h1 : (k : Int) < 64 := by omega
    have hi := Bits.bitLen_le_iff x k hx (by omega)
    have C := fun wx : World => hid (pow2_any k wx (by omega))
    clear h64
    by_cases hb : Lib.bitLen x ≤ k
    · have HF := hid (Bits.fitsB_true hb)
      have hlt : (x : Int) < ((2 ^ k : Nat) : Int) := by have := hi.1 hb; omega
      clear hi hb
      generalize (2 : Nat) ^ k = p at *
      go_enter Try.func69, Try.ntmps69
      go_wp2_with (go_at_call 91; refine (C _).out.mono ?_; rintro e w2 ⟨rfl, rfl⟩)
      go_returns
      exact ⟨by rw [HF.out]; rfl, rfl⟩
    · have HF := hid (Bits.fitsB_false (Nat.lt_of_not_le hb))
      have hlt : ¬ (x : Int) < ((2 ^ k : Nat) : Int) := fun h => hb (hi.2 (by omega))
      have hlt2 : decide (x < 2 ^ k) = false := decide_eq_false fun h => hb (hi.2 h)
      have h64 : decide ((64 : Int) ≤ (k : Int)) = false := decide_eq_false (by omega)
      clear hi hb
      generalize (2 : Nat) ^ k = p at *
      go_enter Try.func69, Try.ntmps69
      go_wp2_with (go_at_call 91; refine (C _).out.mono ?_; rintro e w2 ⟨rfl, rfl⟩)
      go_returns
      exact ⟨by rw [HF.out]; rfl, rfl⟩
set_option maxHeartbeats 400000 in
theorem widthOf_any (l : List Nat) (A : Option Addr) (n cap : Nat) (w : World) (hn : l.length = n) (hr : Rd w A (u64s l)) (hl : ∀ x ∈ l, x < 18446744073709551616) (hnl : n ≤ 9223372036854775806) :
    Calls Try.prog 53 #[.slice A n cap] w fun e w' => e = .returned (.int .i64 (Bits.width l)) ∧ w = w' := by
  have HN := hid hn
  have HA := hid hr
  have HB := hid hl
  clear hr hl hn
  go_enter Try.func53, Try.ntmps53
  go_wp2
  go_loop [3, 4] (fun v c => ∃ k : Nat, k ≤ n ∧ c = .int .i64 k ∧ v = .int .i64 (Bits.width (l.take k))) (fun _ c => n - (intOf c).toNat)
  case atStart => exact ⟨0, Nat.zero_le _, rfl, rfl⟩
  case round =>
    obtain ⟨k, hk, rfl, rfl⟩ := hrel
    by_cases hlt : k < n
    · have hka : k < l.length := by rw [HN.out]; exact hlt
      obtain ⟨b1, o1, e1, l1, c1⟩ := HA.out.nums k hka
      subst e1
      have d1 := c1 k hka
      have HS := hid (show Bits.width (l.take (k + 1)) = max (Bits.width (l.take k)) (Lib.bitLen l[k]) by rw [List.take_succ_eq_append_getElem hka, Bits.width_snoc])
      have hx := HB.out l[k] (List.getElem_mem hka)
      have hb64 := Bits.bitLen_le64 l[k] hx
      have hw64 := Bits.width_le64 (l.take k) fun m hm => HB.out m (List.mem_of_mem_take hm)
      have C := fun (j : Nat) (wx : World) => hid (fits_any l[k] j wx hx)
      have HF1 := hid (fun j => @Bits.fitsB_true l[k] j)
      have HF2 := hid (fun j => @Bits.fitsB_false l[k] j)
      clear c1 hx
      generalize Lib.bitLen l[k] = q at *
      generalize l[k] = x at *
      generalize Bits.width (l.take k) = p at *
      clear hka
      go_wp2
      go_loop [3] (fun v => ∃ j : Nat, p ≤ j ∧ j ≤ max p q ∧ v = .int .i64 j) (fun v => 64 - (intOf v).toNat)
      case atStart => exact ⟨p, Nat.le_refl _, by omega, rfl⟩
      case round =>
        obtain ⟨j, hj1, hj2, rfl⟩ := hrel
        by_cases hjq : j < q
        · have hf := HF2.out j hjq
          have CC := fun wx : World => hid ((C j wx).out (by omega))
          simp only [hf] at CC
          clear hf C
          go_wp2_with (go_at_call 69; refine (CC _).out.mono ?_; rintro e w2 ⟨rfl, rfl⟩)
          go_round
          case rel => exact ⟨j + 1, by omega, by omega, by go_num⟩
          case measure => simp [intOf]; omega
        · have hf := HF1.out j (by omega)
          have CC := fun wx : World => hid ((C j wx).out (by omega))
          simp only [hf] at CC
          clear hf C
          have HJ := hid (show max p q = j by omega)
          go_wp2_with (go_at_call 69; refine (CC _).out.mono ?_; rintro e w2 ⟨rfl, rfl⟩)
          go_round
          case rel => exact ⟨k + 1, by omega, by go_num, by rw [HS.out, HJ.out]⟩
          case measure => simp [intOf]; omega
    · obtain rfl : k = n := by omega
      have e1 : l.take k = l := List.take_of_length_le (by rw [HN.out]; exact Nat.le_refl _)
      rw [e1]
      obtain ⟨q, hq⟩ : ∃ q, q = Bits.width l := ⟨_, rfl⟩
      rw [← hq]
      have HQ := hid hq
      clear e1 hq
      go_wp2
      go_returns
      exact ⟨by rw [← HQ.out]; rfl, rfl⟩
end Go.Proofs.Ytdblegdbfdhepaa
