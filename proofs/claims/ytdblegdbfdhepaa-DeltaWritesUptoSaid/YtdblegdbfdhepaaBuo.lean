/- Bits: the document's own textBit, UnpackOf: walks. -/
import Derived.Test.YtdblegdbfdhepaaBup
namespace Hy.Bits
theorem bit_zero (V e n : Nat) (h : ∀ b, e ≤ b → b < n → V / 2 ^ b % 2 = 0) (hV : V < 2 ^ n) : V < 2 ^ e := by
  rcases Nat.lt_or_ge n e with h1 | h1
  · exact Nat.lt_of_lt_of_le hV (Nat.pow_le_pow_right (by decide) (Nat.le_of_lt h1))
  · obtain ⟨d, rfl⟩ : ∃ d, n = e + d := ⟨n - e, by omega⟩
    induction d with
    | zero => exact hV
    | succ d ih =>
      refine ih (fun b h2 h3 => h b h2 (by omega)) ?_ (by omega)
      have h4 := h (e + d) (by omega) (by omega)
      have h5 : V / 2 ^ (e + d) < 2 := by
        rw [Nat.div_lt_iff_lt_mul (Nat.two_pow_pos _), ← Nat.pow_succ']; exact hV
      have h6 : V / 2 ^ (e + d) = 0 := by generalize V / 2 ^ (e + d) = q at *; omega
      have := Nat.two_pow_pos (e + d)
      rcases Nat.div_eq_zero_iff.1 h6 with h | h
      · omega
      · exact h
theorem bit_one (V e b : Nat) (he : e ≤ b) (h : V / 2 ^ b % 2 = 1) : ¬ V < 2 ^ e := fun hV => by
  rw [Nat.div_eq_of_lt (Nat.lt_of_lt_of_le hV (Nat.pow_le_pow_right (by decide) he))] at h
  cases h
end Hy.Bits
namespace Go.Proofs.Ytdblegdbfdhepaa
open Go.RowKit Hy
set_option maxHeartbeats 400000 in
theorem textBit_any (s : ByteArray) (b : Nat) (w : World) (hb : b < 8 * s.size) (hbl : b ≤ 1000000) :
    Calls Try.prog 58 #[.string s, .int .i64 b] w fun e w' => e = .returned (.int .u64 (Bits.le s.data.toList / 2 ^ b % 2 : Nat)) ∧ w = w' := by
  have hFb : b / 8 < s.size := by omega
  have hFl : b / 8 < s.data.toList.length := by rw [Array.length_toList]; exact hFb
  have hix := fun wx : World => run_ix (P := Try.prog) (w := wx) Try.underlying9 s .i64 (b / 8) s.data.toList[b / 8] (List.getElem?_eq_getElem hFl)
  have hcv := Bits.le_get s.data.toList (b / 8) hFl
  have hbb := Bits.byte_bits (Bits.le s.data.toList) b 1 (by omega)
  rw [← hcv, Nat.pow_one] at hbb
  have hc8 := s.data.toList[b / 8].toNat_lt
  simp only [Int.natCast_ediv, Int.cast_ofNat_Int] at hix
  obtain ⟨z, hz⟩ : ∃ z, z = Bits.le s.data.toList / 2 ^ b % 2 := ⟨_, rfl⟩
  rw [← hz] at hbb ⊢
  clear hcv hz
  generalize s.data.toList[b / 8].toNat = c at *
  have HB := hid hbb
  have hbI : (b : Int) ≤ 1000000 := by omega
  have hi0 : (0 : Int) ≤ (b : Int) / 8 := by omega
  have hi1 : (b : Int) / 8 < (s.size : Int) := by omega
  have hcI : (c : Int) ≤ 255 := by omega
  have hr0 : (0 : Int) ≤ (b : Int) % 8 := by omega
  clear hb hFl hFb hc8 hbl
  go_enter Try.func58, Try.ntmps58
  go_wp2
  go_loop [5, 6] (fun a i => ∃ j : Nat, j ≤ b % 8 ∧ i = .int .i64 j ∧ a = .int .i64 (c / 2 ^ j : Nat)) (fun _ i => 8 - (intOf i).toNat)
  case atStart => exact ⟨0, Nat.zero_le _, rfl, by simp⟩
  case round =>
    obtain ⟨j, hj, rfl, rfl⟩ := hrel
    have hm : (c / 2 ^ j : Nat) ≤ c := Nat.div_le_self _ _
    by_cases hlt : j < b % 8
    · have HS := hid (show c / 2 ^ (j + 1) = c / 2 ^ j / 2 by rw [Nat.div_div_eq_div_mul, Nat.pow_succ])
      generalize c / 2 ^ j = m at *
      have hmI : (m : Int) ≤ 255 := by omega
      have hltI : (j : Int) < (b : Int) % 8 := by omega
      clear hm
      go_wp2
      go_round
      case rel => exact ⟨j + 1, by omega, by go_num, by rw [HS.out]; go_num⟩
      case measure => simp [intOf]; omega
    · have e1 : j = b % 8 := by omega
      have HM := hid (show c / 2 ^ j % 2 = z by rw [e1]; exact HB.out)
      generalize c / 2 ^ j = m at *
      have hmI : (m : Int) ≤ 255 := by omega
      have hltI : ¬ (j : Int) < (b : Int) % 8 := by omega
      clear hm e1 hlt
      go_wp2
      go_returns
      exact ⟨ret_int (by rw [← HM.out]; simp), rfl⟩
set_option maxHeartbeats 2000000 in
theorem unpackOf_own (s : ByteArray) (many wd : Int) (w : World) (hz : s.size ≤ 281474976710656) :
    Calls Try.prog 73 #[.string s, .int .i64 many, .int .i64 wd] w (NumsOwn 33 (Bits.up s.data.toList many wd) (Bits.chk s.data.toList many wd) w) := by
  have HU1 := hid (Bits.up_bad s.data.toList many wd)
  by_cases h1 : wd < 0
  · have HC := Bits.chk_range (s := s.data.toList) (many := many) (w := wd) (.inl (by omega))
    rw [HC] at HU1 ⊢
    generalize Bits.up s.data.toList many wd = L at *
    clear HC
    go_enter Try.func73, Try.ntmps73
    go_wp2
    go_returns
    exact ⟨.slice none 0 0, rfl, by rw [HU1.out (by decide)]; exact World.ownsRow_nil _ _ _ _, ext_refl _⟩
  · by_cases h2 : 64 < wd
    · have HC := Bits.chk_range (s := s.data.toList) (many := many) (w := wd) (.inl (by omega))
      rw [HC] at HU1 ⊢
      generalize Bits.up s.data.toList many wd = L at *
      clear HC
      go_enter Try.func73, Try.ntmps73
      go_wp2
      go_returns
      exact ⟨.slice none 0 0, rfl, by rw [HU1.out (by decide)]; exact World.ownsRow_nil _ _ _ _, ext_refl _⟩
    · by_cases h3 : many < 0
      · have HC := Bits.chk_range (s := s.data.toList) (many := many) (w := wd) (.inr h3)
        rw [HC] at HU1 ⊢
        generalize Bits.up s.data.toList many wd = L at *
        clear HC
        go_enter Try.func73, Try.ntmps73
        go_wp2
        go_returns
        exact ⟨.slice none 0 0, rfl, by rw [HU1.out (by decide)]; exact World.ownsRow_nil _ _ _ _, ext_refl _⟩
      · by_cases h4 : 64 < many
        · have HC := Bits.chk_many (s := s.data.toList) (many := many) (w := wd) (by omega) h4
          rw [HC] at HU1 ⊢
          generalize Bits.up s.data.toList many wd = L at *
          clear HC
          go_enter Try.func73, Try.ntmps73
          go_wp2
          go_returns
          exact ⟨.slice none 0 0, rfl, by rw [HU1.out (by decide)]; exact World.ownsRow_nil _ _ _ _, ext_refl _⟩
        · obtain ⟨m, rfl⟩ := Int.eq_ofNat_of_zero_le (show 0 ≤ many by omega)
          obtain ⟨k, rfl⟩ := Int.eq_ofNat_of_zero_le (show 0 ≤ wd by omega)
          have hm : m ≤ 64 := by omega
          have hk : k ≤ 64 := by omega
          have hmI : (m : Int) ≤ 64 := by omega
          have hkI : (k : Int) ≤ 64 := by omega
          have hlen : s.data.toList.length = s.size := Array.length_toList
          have HF1 := hid (@Bits.chk_form s.data.toList m k hk hm)
          have HF2 := hid (@Bits.chk_rest s.data.toList m k hk hm)
          have HF3 := hid (@Bits.chk_of s.data.toList m k hk hm)
          have HU2 := hid (Bits.up_ok s.data.toList m k)
          have hV := Bits.le_lt s.data.toList
          have hmk : m * k ≤ 64 * 64 := Nat.mul_le_mul hm hk
          have hmul : (m : Int) * (k : Int) = ((m * k : Nat) : Int) := by simp
          have hsz : Bits.size m k = (m * k + 7) / 8 := rfl
          rw [hlen] at HF1 HF3 hV
          obtain ⟨e, he⟩ : ∃ e, e = m * k := ⟨_, rfl⟩
          have HE := hid he
          rw [← he] at HF2 HF3 hmk hmul hsz
          have heI : (e : Int) ≤ 4096 := by omega
          have hzI : (s.size : Int) ≤ 281474976710656 := by omega
          by_cases h5 : s.size = Bits.size m k
          · have HT := hid (fun (b : Nat) (hb : b < 8 * s.size) (wx : World) => textBit_any s b wx hb (by have := size_le m k hm hk; omega))
            obtain ⟨V, hVV⟩ : ∃ V, V = Bits.le s.data.toList := ⟨_, rfl⟩
            rw [← hVV] at HF2 HF3 hV
            simp only [← hVV] at HT
            have HVE := hid hVV
            have HV := hid hV
            have hes : e ≤ 8 * s.size := by rw [h5, hsz]; omega
            have HSZ0 := hid h5
            have hsI : (s.size : Int) ≤ 1000 := by rw [h5, hsz]; omega
            obtain ⟨L, hL⟩ : ∃ L, L = Bits.up s.data.toList (m : Int) (k : Int) := ⟨_, rfl⟩
            obtain ⟨er, her⟩ : ∃ er, er = Bits.chk s.data.toList (m : Int) (k : Int) := ⟨_, rfl⟩
            rw [← hL, ← her] at HU1 ⊢
            rw [← hL, ← her, Int.toNat_natCast, Int.toNat_natCast] at HU2
            rw [← her] at HF2 HF3
            clear HF1 hVV hV hL her he hlen
            by_cases h6 : e % 8 = 0
            · have h7 : ((s.size : Int) != (e : Int) / 8) = false := by rw [bne_eq_false_iff_eq, h5, hsz]; omega
              have h7b : ((s.size : Int) == (e : Int) / 8) = true := by rw [beq_iff_eq, h5, hsz]; omega
              have h7c : ((s.size : Int) != (e : Int) / 8 + 1) = true := by rw [bne_iff_ne, h5, hsz]; omega
              have h7d : ((s.size : Int) == (e : Int) / 8 + 1) = false := by rw [beq_eq_false_iff_ne, h5, hsz]; omega
              have h8 : ((e : Int) % 8 == 0) = true := by rw [beq_iff_eq]; omega
              have h9 : ((e : Int) % 8 != 0) = false := by rw [bne_eq_false_iff_eq]; omega
              have h7e : ((e : Int) / 8 != (e : Int) / 8 + 1) = true := by rw [bne_iff_ne]; omega
              have h7f : ((e : Int) / 8 == (e : Int) / 8 + 1) = false := by rw [beq_eq_false_iff_ne]; omega
              clear h5 hsz h6
              go_enter Try.func73, Try.ntmps73
              go_wp2
              go_loop [9] (fun a => ∃ b : Nat, e ≤ b ∧ b ≤ 8 * s.size ∧ a = .int .i64 b ∧ Hid (∀ i, e ≤ i → i < b → V / 2 ^ i % 2 = 0)) (fun a => 8 * s.size - (intOf a).toNat)
              case atStart => exact ⟨e, Nat.le_refl _, hes, rfl, hid fun i h1 h2 => absurd h2 (by omega)⟩
              case round =>
                obtain ⟨b, hb1, hb2, rfl, HZ⟩ := hrel
                by_cases hlt : b < 8 * s.size
                · have CT := fun wx : World => hid (HT.out b hlt wx)
                  have hbit : V / 2 ^ b % 2 = 0 ∨ V / 2 ^ b % 2 = 1 := by have := Nat.mod_lt (V / 2 ^ b) (show 0 < 2 by decide); omega
                  rcases hbit with h0 | h0
                  · rw [h0] at CT
                    have HZ2 := hid (show ∀ i, e ≤ i → i < b + 1 → V / 2 ^ i % 2 = 0 from fun i h1 h2 => by
                      rcases Nat.lt_or_ge i b with h | h
                      · exact HZ.out i h1 h
                      · rw [show i = b by omega]; exact h0)
                    clear h0
                    have hltI : (b : Int) < 8 * (s.size : Int) := by omega
                    go_wp2_with (go_at_call 58; refine (CT _).out.mono ?_; rintro e w2 ⟨rfl, rfl⟩)
                    go_round
                    case rel => exact ⟨b + 1, by omega, by omega, by go_num, HZ2⟩
                    case measure => simp [intOf]; omega
                  · have HC := hid (HF2.out (Bits.bit_one V e b hb1 h0))
                    rw [h0] at CT
                    have HUX := hid (HU1.out (by rw [HC.out]; decide))
                    rw [HC.out]
                    clear h0
                    have hltI : (b : Int) < 8 * (s.size : Int) := by omega
                    go_wp2_with (go_at_call 58; refine (CT _).out.mono ?_; rintro e w2 ⟨rfl, rfl⟩)
                    go_returns
                    exact ⟨.slice none 0 0, rfl, by rw [HUX.out]; exact World.ownsRow_nil _ _ _ _, ext_refl _⟩
                · have hVe : V < 2 ^ e := Bits.bit_zero V e b HZ.out (by rw [show b = 8 * s.size by omega, ← Bits.p256]; exact HV.out)
                  have HC := hid (HF3.out HSZ0.out hVe)
                  have HUX := hid (HU2.out HC.out)
                  rw [HC.out]
                  have hltI : ¬ (b : Int) < 8 * (s.size : Int) := by omega
                  clear hVe HZ hlt
                  go_wp2
                  go_loopw [10, 11, 12, 13] (fun v c _ _ wr => ∃ i : Nat, i ≤ m ∧ c = .int .i64 i ∧ wr.ownsRow w.heap.size 33 1 v (Bits.unp s.data.toList i k).length (u64s (Bits.unp s.data.toList i k)) ∧ Ext w wr) (fun _ c _ _ _ => m - (intOf c).toNat)
                  case atStart => exact ⟨0, Nat.zero_le _, rfl, by rw [Bits.unp_eq]; exact World.ownsRow_nil _ _ _ _, ext_refl _⟩
                  case round =>
                    obtain ⟨i, hi, rfl, hown, X⟩ := hrel
                    have HO := hid hown
                    clear hown
                    by_cases hlt : i < m
                    · have HSN := hid (Bits.unp_snoc s.data.toList i k)
                      have hl := Bits.unp_len s.data.toList i k
                      have hsb := size_bits m k i hlt
                      rw [← HSZ0.out] at hsb
                      rw [← HVE.out] at HSN
                      generalize Bits.unp s.data.toList i k = L1 at *
                      have hb : L1.length ≤ 64 := by omega
                      have hik : i * k ≤ 64 * 64 := Nat.mul_le_mul (by omega) (by omega)
                      have hmul2 : (i : Int) * (k : Int) = ((i * k : Nat) : Int) := by simp
                      generalize i * k = ik at *
                      have hikI : (ik : Int) ≤ 4096 := by omega
                      clear hik hl
                      go_wp2
                      go_loop [12, 13] (fun a q => ∃ j : Nat, j ≤ k ∧ q = .int .i64 ((j : Int) - 1) ∧ a = .int .u64 (V / 2 ^ (ik + j) % 2 ^ (k - j) : Nat)) (fun _ q => (intOf q + 1).toNat)
                      case atStart => exact ⟨k, Nat.le_refl _, rfl, by rw [Nat.sub_self, Nat.pow_zero, Nat.mod_one]; rfl⟩
                      case round =>
                        obtain ⟨j, hj, rfl, rfl⟩ := hrel
                        by_cases hj0 : 1 ≤ j
                        · obtain ⟨q, rfl⟩ : ∃ q, j = q + 1 := ⟨j - 1, by omega⟩
                          have hst := Bits.half_step V (ik + q) (k - (q + 1))
                          rw [show k - (q + 1) + 1 = k - q by omega, show ik + q + 1 = ik + (q + 1) by omega] at hst
                          have HST := hid hst
                          have hlt2 : V / 2 ^ (ik + (q + 1)) % 2 ^ (k - (q + 1)) < 2 ^ (k - (q + 1)) := Nat.mod_lt _ (Nat.two_pow_pos _)
                          have h63 : 2 ^ (k - (q + 1)) ≤ 2 ^ 63 := Nat.pow_le_pow_right (by decide) (by omega)
                          have hm2 : V / 2 ^ (ik + q) % 2 < 2 := Nat.mod_lt _ (by decide)
                          have CT := fun wx : World => hid (HT.out (ik + q) (by omega) wx)
                          generalize V / 2 ^ (ik + (q + 1)) % 2 ^ (k - (q + 1)) = p at *
                          generalize V / 2 ^ (ik + q) % 2 = z at *
                          have hpI : (p : Int) ≤ 9223372036854775807 := by omega
                          have hzI2 : (z : Int) ≤ 1 := by omega
                          have hqI : (q : Int) ≤ 63 := by omega
                          have hq0 : (0 : Int) ≤ (q : Int) := by omega
                          clear hst hlt2 h63 hm2
                          go_wp2_with (go_at_call 58; refine (CT _).out.mono ?_; rintro e w2 ⟨rfl, rfl⟩)
                          go_round
                          case rel => exact ⟨q, by omega, by go_num, by rw [HST.out]; go_num⟩
                          case measure => simp [intOf]
                        · obtain rfl : j = 0 := by omega
                          rw [Nat.add_zero, Nat.sub_zero]
                          have hx : V / 2 ^ ik % 2 ^ k < 18446744073709551616 := by
                            have h1 : V / 2 ^ ik % 2 ^ k < 2 ^ k := Nat.mod_lt _ (Nat.two_pow_pos k)
                            have h2 : 2 ^ k ≤ 2 ^ 64 := Nat.pow_le_pow_right (by decide) (by omega)
                            omega
                          have hxI : ((V / 2 ^ ik % 2 ^ k : Nat) : Int) ≤ 18446744073709551615 := by omega
                          generalize V / 2 ^ ik % 2 ^ k = x at *
                          clear hx
                          go_wp2_with (at_builtin; refine wpList_app rfl (.tmp 85) (.tmp 87) rowU64 rfl _ L1.length _ rfl (HO.out.alloc _) _ 1 (u64s [x]) rfl (Src.rd Try.underlying22 _ 1 1 _ rfl (rd_lit rfl rfl) (u64s_one _) (fun h => by cases h)) (by unfold maxLen; omega) (by omega) (by have := X.size; simp; omega) ?_; intro v' w3 hown hgrow hat hbel)
                          go_roundw
                          case rel => exact ⟨i + 1, by omega, by go_num, by rw [HSN.out, u64s_app, List.length_append]; exact hown, (X.new _).trans hbel⟩
                          case measure => simp [intOf]; omega
                    · obtain rfl : i = m := by omega
                      obtain ⟨A, cap, rfl, hrd, _⟩ := Rd.owned HO.out
                      have HR := hid hrd
                      clear hrd
                      go_wp2
                      go_returns
                      exact ⟨_, by (first | rfl | (rw [HC.out]; rfl)), by rw [HUX.out]; exact HO.out, X⟩
            · have h7 : ((s.size : Int) != (e : Int) / 8) = true := by rw [bne_iff_ne, h5, hsz]; omega
              have h7b : ((s.size : Int) == (e : Int) / 8) = false := by rw [beq_eq_false_iff_ne, h5, hsz]; omega
              have h7c : ((s.size : Int) != (e : Int) / 8 + 1) = false := by rw [bne_eq_false_iff_eq, h5, hsz]; omega
              have h7d : ((s.size : Int) == (e : Int) / 8 + 1) = true := by rw [beq_iff_eq, h5, hsz]; omega
              have h8 : ((e : Int) % 8 == 0) = false := by rw [beq_eq_false_iff_ne]; omega
              have h9 : ((e : Int) % 8 != 0) = true := by rw [bne_iff_ne]; omega
              have h7e : ((e : Int) / 8 + 1 != (e : Int) / 8) = true := by rw [bne_iff_ne]; omega
              have h7f : ((e : Int) / 8 + 1 == (e : Int) / 8) = false := by rw [beq_eq_false_iff_ne]; omega
              clear h5 hsz h6
              go_enter Try.func73, Try.ntmps73
              go_wp2
              go_loop [9] (fun a => ∃ b : Nat, e ≤ b ∧ b ≤ 8 * s.size ∧ a = .int .i64 b ∧ Hid (∀ i, e ≤ i → i < b → V / 2 ^ i % 2 = 0)) (fun a => 8 * s.size - (intOf a).toNat)
              case atStart => exact ⟨e, Nat.le_refl _, hes, rfl, hid fun i h1 h2 => absurd h2 (by omega)⟩
              case round =>
                obtain ⟨b, hb1, hb2, rfl, HZ⟩ := hrel
                by_cases hlt : b < 8 * s.size
                · have CT := fun wx : World => hid (HT.out b hlt wx)
                  have hbit : V / 2 ^ b % 2 = 0 ∨ V / 2 ^ b % 2 = 1 := by have := Nat.mod_lt (V / 2 ^ b) (show 0 < 2 by decide); omega
                  rcases hbit with h0 | h0
                  · rw [h0] at CT
                    have HZ2 := hid (show ∀ i, e ≤ i → i < b + 1 → V / 2 ^ i % 2 = 0 from fun i h1 h2 => by
                      rcases Nat.lt_or_ge i b with h | h
                      · exact HZ.out i h1 h
                      · rw [show i = b by omega]; exact h0)
                    clear h0
                    have hltI : (b : Int) < 8 * (s.size : Int) := by omega
                    go_wp2_with (go_at_call 58; refine (CT _).out.mono ?_; rintro e w2 ⟨rfl, rfl⟩)
                    go_round
                    case rel => exact ⟨b + 1, by omega, by omega, by go_num, HZ2⟩
                    case measure => simp [intOf]; omega
                  · have HC := hid (HF2.out (Bits.bit_one V e b hb1 h0))
                    rw [h0] at CT
                    have HUX := hid (HU1.out (by rw [HC.out]; decide))
                    rw [HC.out]
                    clear h0
                    have hltI : (b : Int) < 8 * (s.size : Int) := by omega
                    go_wp2_with (go_at_call 58; refine (CT _).out.mono ?_; rintro e w2 ⟨rfl, rfl⟩)
                    go_returns
                    exact ⟨.slice none 0 0, rfl, by rw [HUX.out]; exact World.ownsRow_nil _ _ _ _, ext_refl _⟩
                · have hVe : V < 2 ^ e := Bits.bit_zero V e b HZ.out (by rw [show b = 8 * s.size by omega, ← Bits.p256]; exact HV.out)
                  have HC := hid (HF3.out HSZ0.out hVe)
                  have HUX := hid (HU2.out HC.out)
                  rw [HC.out]
                  have hltI : ¬ (b : Int) < 8 * (s.size : Int) := by omega
                  clear hVe HZ hlt
                  go_wp2
                  go_loopw [10, 11, 12, 13] (fun v c _ _ wr => ∃ i : Nat, i ≤ m ∧ c = .int .i64 i ∧ wr.ownsRow w.heap.size 33 1 v (Bits.unp s.data.toList i k).length (u64s (Bits.unp s.data.toList i k)) ∧ Ext w wr) (fun _ c _ _ _ => m - (intOf c).toNat)
                  case atStart => exact ⟨0, Nat.zero_le _, rfl, by rw [Bits.unp_eq]; exact World.ownsRow_nil _ _ _ _, ext_refl _⟩
                  case round =>
                    obtain ⟨i, hi, rfl, hown, X⟩ := hrel
                    have HO := hid hown
                    clear hown
                    by_cases hlt : i < m
                    · have HSN := hid (Bits.unp_snoc s.data.toList i k)
                      have hl := Bits.unp_len s.data.toList i k
                      have hsb := size_bits m k i hlt
                      rw [← HSZ0.out] at hsb
                      rw [← HVE.out] at HSN
                      generalize Bits.unp s.data.toList i k = L1 at *
                      have hb : L1.length ≤ 64 := by omega
                      have hik : i * k ≤ 64 * 64 := Nat.mul_le_mul (by omega) (by omega)
                      have hmul2 : (i : Int) * (k : Int) = ((i * k : Nat) : Int) := by simp
                      generalize i * k = ik at *
                      have hikI : (ik : Int) ≤ 4096 := by omega
                      clear hik hl
                      go_wp2
                      go_loop [12, 13] (fun a q => ∃ j : Nat, j ≤ k ∧ q = .int .i64 ((j : Int) - 1) ∧ a = .int .u64 (V / 2 ^ (ik + j) % 2 ^ (k - j) : Nat)) (fun _ q => (intOf q + 1).toNat)
                      case atStart => exact ⟨k, Nat.le_refl _, rfl, by rw [Nat.sub_self, Nat.pow_zero, Nat.mod_one]; rfl⟩
                      case round =>
                        obtain ⟨j, hj, rfl, rfl⟩ := hrel
                        by_cases hj0 : 1 ≤ j
                        · obtain ⟨q, rfl⟩ : ∃ q, j = q + 1 := ⟨j - 1, by omega⟩
                          have hst := Bits.half_step V (ik + q) (k - (q + 1))
                          rw [show k - (q + 1) + 1 = k - q by omega, show ik + q + 1 = ik + (q + 1) by omega] at hst
                          have HST := hid hst
                          have hlt2 : V / 2 ^ (ik + (q + 1)) % 2 ^ (k - (q + 1)) < 2 ^ (k - (q + 1)) := Nat.mod_lt _ (Nat.two_pow_pos _)
                          have h63 : 2 ^ (k - (q + 1)) ≤ 2 ^ 63 := Nat.pow_le_pow_right (by decide) (by omega)
                          have hm2 : V / 2 ^ (ik + q) % 2 < 2 := Nat.mod_lt _ (by decide)
                          have CT := fun wx : World => hid (HT.out (ik + q) (by omega) wx)
                          generalize V / 2 ^ (ik + (q + 1)) % 2 ^ (k - (q + 1)) = p at *
                          generalize V / 2 ^ (ik + q) % 2 = z at *
                          have hpI : (p : Int) ≤ 9223372036854775807 := by omega
                          have hzI2 : (z : Int) ≤ 1 := by omega
                          have hqI : (q : Int) ≤ 63 := by omega
                          have hq0 : (0 : Int) ≤ (q : Int) := by omega
                          clear hst hlt2 h63 hm2
                          go_wp2_with (go_at_call 58; refine (CT _).out.mono ?_; rintro e w2 ⟨rfl, rfl⟩)
                          go_round
                          case rel => exact ⟨q, by omega, by go_num, by rw [HST.out]; go_num⟩
                          case measure => simp [intOf]
                        · obtain rfl : j = 0 := by omega
                          rw [Nat.add_zero, Nat.sub_zero]
                          have hx : V / 2 ^ ik % 2 ^ k < 18446744073709551616 := by
                            have h1 : V / 2 ^ ik % 2 ^ k < 2 ^ k := Nat.mod_lt _ (Nat.two_pow_pos k)
                            have h2 : 2 ^ k ≤ 2 ^ 64 := Nat.pow_le_pow_right (by decide) (by omega)
                            omega
                          have hxI : ((V / 2 ^ ik % 2 ^ k : Nat) : Int) ≤ 18446744073709551615 := by omega
                          generalize V / 2 ^ ik % 2 ^ k = x at *
                          clear hx
                          go_wp2_with (at_builtin; refine wpList_app rfl (.tmp 85) (.tmp 87) rowU64 rfl _ L1.length _ rfl (HO.out.alloc _) _ 1 (u64s [x]) rfl (Src.rd Try.underlying22 _ 1 1 _ rfl (rd_lit rfl rfl) (u64s_one _) (fun h => by cases h)) (by unfold maxLen; omega) (by omega) (by have := X.size; simp; omega) ?_; intro v' w3 hown hgrow hat hbel)
                          go_roundw
                          case rel => exact ⟨i + 1, by omega, by go_num, by rw [HSN.out, u64s_app, List.length_append]; exact hown, (X.new _).trans hbel⟩
                          case measure => simp [intOf]; omega
                    · obtain rfl : i = m := by omega
                      obtain ⟨A, cap, rfl, hrd, _⟩ := Rd.owned HO.out
                      have HR := hid hrd
                      clear hrd
                      go_wp2
                      go_returns
                      exact ⟨_, by (first | rfl | (rw [HC.out]; rfl)), by rw [HUX.out]; exact HO.out, X⟩
          · have HC := HF1.out h5
            rw [HC] at HU1 ⊢
            generalize Bits.up s.data.toList (m : Int) (k : Int) = L at *
            clear HC HU2 hV hlen he hm hk hmk
            by_cases h6 : e % 8 = 0
            · have h7 : ((s.size : Int) != (e : Int) / 8) = true := by rw [bne_iff_ne]; omega
              have h7b : ((s.size : Int) == (e : Int) / 8) = false := by rw [beq_eq_false_iff_ne]; omega
              have h8 : ((e : Int) % 8 == 0) = true := by rw [beq_iff_eq]; omega
              clear h5 hsz h6
              go_enter Try.func73, Try.ntmps73
              go_wp2
              go_returns
              exact ⟨.slice none 0 0, rfl, by rw [HU1.out (by decide)]; exact World.ownsRow_nil _ _ _ _, ext_refl _⟩
            · have h7 : ((s.size : Int) != (e : Int) / 8 + 1) = true := by rw [bne_iff_ne]; omega
              have h7b : ((s.size : Int) == (e : Int) / 8 + 1) = false := by rw [beq_eq_false_iff_ne]; omega
              have h8 : ((e : Int) % 8 == 0) = false := by rw [beq_eq_false_iff_ne]; omega
              have h9 : ((e : Int) % 8 != 0) = true := by rw [bne_iff_ne]; omega
              clear h5 hsz h6
              by_cases h10 : (s.size : Int) = (e : Int) / 8
              · have h11 : ((s.size : Int) != (e : Int) / 8) = false := by rw [bne_eq_false_iff_eq]; exact h10
                have h12 : ((s.size : Int) == (e : Int) / 8) = true := by rw [beq_iff_eq]; exact h10
                clear h10
                go_enter Try.func73, Try.ntmps73
                go_wp2
                go_returns
                exact ⟨.slice none 0 0, rfl, by rw [HU1.out (by decide)]; exact World.ownsRow_nil _ _ _ _, ext_refl _⟩
              · have h11 : ((s.size : Int) != (e : Int) / 8) = true := by rw [bne_iff_ne]; exact h10
                have h12 : ((s.size : Int) == (e : Int) / 8) = false := by rw [beq_eq_false_iff_ne]; exact h10
                clear h10
                go_enter Try.func73, Try.ntmps73
                go_wp2
                go_returns
                exact ⟨.slice none 0 0, rfl, by rw [HU1.out (by decide)]; exact World.ownsRow_nil _ _ _ _, ext_refl _⟩
theorem unpackOf_any (s : ByteArray) (many wd : Int) (w : World) (hz : s.size ≤ 281474976710656) :
    Calls Try.prog 73 #[.string s, .int .i64 many, .int .i64 wd] w (NumsOut (Bits.up s.data.toList many wd) (Bits.chk s.data.toList many wd) w) :=
  Calls.mono (unpackOf_own s many wd w hz) fun _ _ h => h.out
end Go.Proofs.Ytdblegdbfdhepaa
