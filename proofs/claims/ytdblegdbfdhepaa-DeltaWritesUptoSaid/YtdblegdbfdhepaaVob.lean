/- Vary: the document's own: oneByte, bigBytes, VaryBytes: walks. -/
import Derived.Test.YtdblegdbfdhepaaOnb
import Derived.Test.YtdblegdbfdhepaaRows
import Derived.Test.YtdblegdbfdhepaaVap
import Derived.Test.YtdblegdbfdhepaaApp
namespace Go.Proofs.Ytdblegdbfdhepaa
open Go.RowKit Hy
theorem bigBytes_any (n : Nat) (kk : Int) (w : World) (hn : n < 18446744073709551616) (h0 : 0 ≤ kk) (hk : kk ≤ 8) :
    Calls Try.prog 74 #[.int .u64 n, .int .i64 kk] w fun e w' => e = .returned (.string ⟨(Vary.be n kk.toNat).toArray⟩) ∧ Ext w w' := by
  obtain ⟨k, rfl⟩ := Int.eq_ofNat_of_zero_le h0
  rw [Int.toNat_natCast]
  go_enter Try.func74, Try.ntmps74
  go_wp2
  go_loopw [0, 5, 6] (fun a s c wr => ∃ i : Nat, i ≤ k ∧ c = .int .i64 i ∧ a = .int .u64 (n / 256 ^ i : Nat) ∧ s = .string ⟨(Vary.be n i).toArray⟩ ∧ Ext w wr) (fun _ _ c _ => k - (intOf c).toNat)
  case atStart => exact ⟨0, Nat.zero_le _, rfl, by simp, rfl, ext_refl _⟩
  case round =>
    obtain ⟨i, hi, rfl, rfl, rfl, X⟩ := hrel
    have HB := hid (Vary.be_cons n i)
    have HD := hid (show n / 256 ^ (i + 1) = n / 256 ^ i / 256 by rw [Nat.div_div_eq_div_mul, Nat.pow_succ])
    have hm : n / 256 ^ i < 18446744073709551616 := Nat.lt_of_le_of_lt (Nat.div_le_self _ _) hn
    generalize n / 256 ^ i = m at *
    obtain ⟨s, hs⟩ : ∃ s : ByteArray, s = ⟨(Vary.be n i).toArray⟩ := ⟨_, rfl⟩
    have hz : s.size ≤ 8 := by rw [hs]; simp [ByteArray.size, Vary.be_len]; omega
    rw [← hs]
    have HS := hid hs
    clear hs
    by_cases hlt : i < k
    · go_wp2_with (go_at_call 70; refine (oneByte_any _ _ (by omega) (by omega)).mono ?_; rintro e w2 ⟨rfl, b2⟩)
      go_roundw
      case rel =>
        refine ⟨i + 1, by omega, by go_num, by rw [HD.out]; go_num, ?_, X.then b2⟩
        rw [HB.out, HS.out, str_cons]
        first | rw [ofNat_mod] | (rw [show ((m : Int) % 256).toNat = m % 256 from by omega, ofNat_mod])
      case measure => simp [intOf]; omega
    · obtain rfl : i = k := by omega
      go_wp2
      go_returns
      exact ⟨by rw [HS.out]; rfl, X⟩
set_option maxHeartbeats 800000 in
theorem varyBytes_any (n : Nat) (w : World) (hn : n < 18446744073709551616) :
    Calls Try.prog 37 #[.int .u64 n] w fun e w' => e = .returned (.string ⟨(Vary.wr n).toArray⟩) ∧ Ext w w' := by
  go_enter Try.func37, Try.ntmps37
  go_wp2
  go_loop [3, 4, 5, 6] (fun a b c _ => ∃ i : Nat, i ≤ 8 ∧ c = .int .i64 (i + 1 : Nat) ∧ a = .int .u64 (128 ^ (i + 1) : Nat) ∧ b = .int .i64 (Vary.lead i) ∧ (i = 0 ∨ 128 ^ i ≤ n)) (fun _ _ c _ => 9 - (intOf c).toNat)
  case atStart => exact ⟨0, Nat.zero_le _, rfl, rfl, rfl, .inl rfl⟩
  case round =>
    obtain ⟨i, hi, rfl, rfl, rfl, hlo⟩ := hrel
    have HLo := hid hlo
    clear hlo
    have hF := Vary.lead_lt i
    have HN := hid (fun h => Vary.lead_next ⟨i, h⟩)
    by_cases h8 : i < 8
    · have HL := hid (show (128 : Nat) ^ (i + 1 + 1) = 128 ^ (i + 1) * 128 from Nat.pow_succ ..)
      have hL : (128 : Nat) ^ (i + 1) ≤ 72057594037927936 := Nat.le_trans (Nat.pow_le_pow_right (by decide) (show i + 1 ≤ 8 by omega)) (by decide)
      have HB := hid (fun h => Vary.beh_of n i hn h8 HLo.out h)
      have HF := hid (Vary.first_lt n hn)
      have HW := hid (Vary.wr_eq n)
      have HC := hid (Vary.be_cons n i)
      generalize hLg : (128 : Nat) ^ (i + 1) = L at *
      have HLg := hid hLg
      clear hLg
      by_cases hlt : n < L
      · have e := HB.out hlt
        have f1 := HF.out
        rw [e] at f1
        have hS : ∀ w : World, (Instr.index 9 (.string ⟨(Vary.be n (i + 1)).toArray⟩) (.int .i64 0)).run Try.prog w = .ok (.int .u8 ((n / 256 ^ i % 256 : Nat) : Int)) w := fun w => by
          have := run_ix (P := Try.prog) (w := w) Try.underlying9 ⟨(Vary.be n (i + 1)).toArray⟩ .i64 0 (UInt8.ofNat (n / 256 ^ i)) (by rw [HC.out]; rfl)
          rw [UInt8.toNat_ofNat'] at this
          exact this
        have hT : ∀ w : World, (Instr.slice 9 (.string ⟨(Vary.be n (i + 1)).toArray⟩) (some (.int .i64 1)) none none).run Try.prog w = .ok (.string ⟨(Vary.be n i).toArray⟩) w := fun w => by
          have := run_from (P := Try.prog) (w := w) Try.underlying9 ⟨(Vary.be n (i + 1)).toArray⟩ .i64 1 (by rw [str_size, Vary.be_len]; omega)
          rw [HC.out] at this
          rw [HC.out]
          exact this
        have hz : (⟨(Vary.be n i).toArray⟩ : ByteArray).size ≤ 8 := by rw [str_size, Vary.be_len]; exact hi
        have hW : Vary.wr n = UInt8.ofNat (Vary.lead i + n / 256 ^ i) :: Vary.be n i := by rw [HW.out, e]
        have HW2 := hid hW
        clear hW
        have hm : (n / 256 ^ i % 256 : Nat) = n / 256 ^ i := Nat.mod_eq_of_lt (by omega)
        rw [hm] at hS
        generalize n / 256 ^ i = m at *
        have f2 : (Vary.lead i : Int) + (m : Int) ≤ 255 := by omega
        clear f1 hm e
        have G39 : Gives Try.prog 70 #[.int .i64 ((m : Int) + (Vary.lead i : Int))] (.string ⟨#[UInt8.ofNat (Vary.lead i + m)]⟩) := fun w => by
          have := oneByte_any ((m : Int) + (Vary.lead i : Int)) w (by omega) (by omega)
          rw [show ((m : Int) + (Vary.lead i : Int)).toNat = Vary.lead i + m from by omega] at this
          exact this
        obtain ⟨O, hOO⟩ : ∃ O : ByteArray, O = ⟨#[UInt8.ofNat (Vary.lead i + m)]⟩ := ⟨_, rfl⟩
        have hz1 : O.size ≤ 1 := by rw [hOO]; exact Nat.le_refl _
        rw [← hOO] at G39
        have HOO := hid hOO
        clear hOO
        generalize Vary.lead i = F at *
        obtain ⟨S, hSS⟩ : ∃ S : ByteArray, S = ⟨(Vary.be n (i + 1)).toArray⟩ := ⟨_, rfl⟩
        obtain ⟨T, hTT⟩ : ∃ T : ByteArray, T = ⟨(Vary.be n i).toArray⟩ := ⟨_, rfl⟩
        rw [← hSS] at hS hT
        rw [← hTT] at hT hz
        have HSS := hid hSS
        have HTT := hid hTT
        clear hSS hTT HC
        go_wp2_with (go_at_call 74; refine (bigBytes_any _ _ _ hn (by omega) (by omega)).mono ?_; rintro e w2 ⟨rfl, b2⟩; rw [show ((i : Int) + 1).toNat = i + 1 from by omega, ← HSS.out])
        refine wp_region_quiet_below (by kernel_rfl) (by kernel_rfl) ?_
        repeat (go_big_quiet_step ((go_at_call 70; exact G39.quiet _ _ _)))
        refine wpQuiet_nil ?_
        intro w9 hw9
        obtain ⟨p, rfl⟩ := hw9
        go_wp2
        go_returns
        exact ⟨by rw [HW2.out, ← str_cons, ← HTT.out, ← HOO.out]; rfl, b2.then (ext_regrown _ p)⟩
      · go_wp2
        go_round
        case rel => exact ⟨i + 1, by omega, by go_num, by rw [HL.out]; go_num, by rw [(HN.out h8)]; go_num, .inr (by rw [HLg.out]; omega)⟩
        case measure => simp [intOf]; omega
    · obtain rfl : i = 8 := by omega
      have h56 : 128 ^ 8 ≤ n := by rcases HLo.out with h | h; (· cases h); exact h
      have e := Vary.beh_of8 n hn h56
      have hW : Vary.wr n = 255 :: Vary.be n 8 := by rw [Vary.wr_eq, e, Nat.div_eq_of_lt (show n < 256 ^ 8 from hn)]; rfl
      have HW := hid hW
      clear hW e h56 HN hF h8
      go_wp2_with (first
        | (go_at_call 70; refine (oneByte_any _ _ (by omega) (by omega)).mono ?_; rintro e w2 ⟨rfl, b2⟩)
        | (go_at_call 74; refine (bigBytes_any _ _ _ hn (by omega) (by omega)).mono ?_; rintro e w3 ⟨rfl, b3⟩))
      go_returns
      exact ⟨by rw [HW.out, ← str_cons]; rfl, b2.then b3⟩
end Go.Proofs.Ytdblegdbfdhepaa
