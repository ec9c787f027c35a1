/- Bits: check, Unpack, Get: walks. -/
import Derived.Test.YtdblegdbfdhepaaBpl
namespace Hy.Bits
open Go
/-- the last byte tells whether there is a bit behind all -/
theorem end_zero (V e n : Nat) (hV : V < 256 ^ n) (hn : n = (e + 7) / 8) (h0 : e % 8 = 0) : V < 2 ^ e := by
  rw [show (2 : Nat) ^ e = 256 ^ n from by rw [p256]; congr 1; omega]; exact hV
theorem end_byte (V e n : Nat) (hV : V < 256 ^ n) (hn : n = (e + 7) / 8) (h0 : e % 8 ≠ 0) : V / 256 ^ (e / 8) % 256 / 2 ^ (e % 8) = 0 ↔ V < 2 ^ e := by
  rw [top_byte V e n hV (by omega), p256, Nat.div_div_eq_div_mul, ← Nat.pow_add, Nat.div_add_mod, Nat.div_eq_zero_iff]
  have := Nat.two_pow_pos e
  omega
theorem chk_range {s : List UInt8} {many w : Int} (h : ¬ (0 ≤ w ∧ w ≤ 64) ∨ many < 0) : chk s many w = 3 := by unfold chk; rw [if_pos h]
theorem chk_many {s : List UInt8} {many w : Int} (h : ¬ (¬ (0 ≤ w ∧ w ≤ 64) ∨ many < 0)) (h2 : 64 < many) : chk s many w = 2 := by unfold chk; rw [if_neg h, if_pos h2]
theorem chk_form {s : List UInt8} {many w : Nat} (h1 : w ≤ 64) (h2 : many ≤ 64) (h : s.length ≠ size many w) : chk s many w = 1 := by
  unfold chk; rw [if_neg (by omega), if_neg (by omega), if_pos (by simpa using h)]
theorem chk_rest {s : List UInt8} {many w : Nat} (h1 : w ≤ 64) (h2 : many ≤ 64) (h : ¬ le s < 2 ^ (many * w)) : chk s many w = 1 := by
  unfold chk; rw [if_neg (by omega), if_neg (by omega)]
  split
  · rfl
  · rw [if_neg (by simpa using h)]
end Hy.Bits
namespace Go.Proofs.Ytdblegdbfdhepaa
open Go.RowKit Hy
set_option maxHeartbeats 1000000 in
theorem check_any (s : ByteArray) (many wd : Int) (w : World) :
    Calls Try.prog 99 #[.string s, .int .i64 many, .int .i64 wd] w fun e w' => e = .returned (.int .i64 (Bits.chk s.data.toList many wd)) ∧ w = w' := by
  have C42 := fun wx : World => hid (wide_any wd wx)
  by_cases h1 : 0 ≤ wd ∧ wd ≤ 64
  · rw [decide_eq_true h1] at C42
    by_cases h2 : many < 0
    · rw [Bits.chk_range (.inr h2)]
      clear h1
      go_enter Try.func99, Try.ntmps99
      go_wp2_with (go_at_call 60; refine (C42 _).out.mono ?_; rintro e w2 ⟨rfl, rfl⟩)
      go_returns
      exact ⟨rfl, rfl⟩
    · by_cases h3 : 64 < many
      · rw [Bits.chk_many (fun h => h.elim (fun h => h h1) h2) h3]
        clear h1
        go_enter Try.func99, Try.ntmps99
        go_wp2_with (go_at_call 60; refine (C42 _).out.mono ?_; rintro e w2 ⟨rfl, rfl⟩)
        go_returns
        exact ⟨rfl, rfl⟩
      · obtain ⟨m, rfl⟩ := Int.eq_ofNat_of_zero_le (show 0 ≤ many by omega)
        obtain ⟨k, rfl⟩ := Int.eq_ofNat_of_zero_le h1.1
        have hm : m ≤ 64 := by omega
        have hk : k ≤ 64 := by omega
        have hmI : (m : Int) ≤ 64 := by omega
        have CS := fun wx : World => hid (size_any m k wx (by omega) (by omega))
        have hlen : s.data.toList.length = s.size := Array.length_toList
        have HF1 := hid (@Bits.chk_form s.data.toList m k hk hm)
        have HF2 := hid (@Bits.chk_rest s.data.toList m k hk hm)
        have HF3 := hid (@Bits.chk_of s.data.toList m k hk hm)
        have hV := Bits.le_lt s.data.toList
        have hmk : m * k ≤ 64 * 64 := Nat.mul_le_mul hm hk
        have hmul : (m : Int) * (k : Int) = ((m * k : Nat) : Int) := by simp
        have hsz : Bits.size m k = (m * k + 7) / 8 := rfl
        have hgb := fun h => Bits.le_get s.data.toList (m * k / 8) h
        rw [hlen] at HF1 HF3 hV
        obtain ⟨e, he⟩ : ∃ e, e = m * k := ⟨_, rfl⟩
        rw [← he] at HF2 HF3 hmk hmul hsz hgb
        have heI : (e : Int) ≤ 4096 := by omega
        obtain ⟨Q, hQ⟩ : ∃ Q, Q = Bits.size m k := ⟨_, rfl⟩
        rw [← hQ] at HF1 HF3 CS hsz
        have hQI : (Q : Int) ≤ 1000 := by omega
        clear h2 h3 h1 hQ
        have hmm := hid hmul
        by_cases h4 : s.size = Q
        · have h4I : ((s.size : Int) != (Q : Int)) = false := by rw [bne_eq_false_iff_eq]; omega
          have h4J : ((s.size : Int) == (Q : Int)) = true := by rw [beq_iff_eq]; omega
          by_cases h5 : e % 8 = 0
          · have hlt := Bits.end_zero _ e _ hV (by omega) h5
            have HC := hid (HF3.out (by omega) hlt)
            have h5I : ((e : Int) % 8 != 0) = false := by rw [bne_eq_false_iff_eq]; omega
            have h5J : ((e : Int) % 8 == 0) = true := by rw [beq_iff_eq]; omega
            clear hV hlt hgb hsz h5 he hm hk hmk hlen h4
            go_enter Try.func99, Try.ntmps99
            go_wp2_with (first
              | (go_at_call 60; refine (C42 _).out.mono ?_; rintro e w2 ⟨rfl, rfl⟩)
              | (go_at_call 102; refine (CS _).out.mono ?_; rintro e w3 ⟨rfl, rfl⟩))
            go_returns
            exact ⟨by rw [HC.out]; rfl, rfl⟩
          · have hi : e / 8 < s.size := by omega
            have hil : e / 8 < s.data.toList.length := by rw [hlen]; exact hi
            have hix := fun wx : World => run_ix (P := Try.prog) (w := wx) Try.underlying9 s .i64 (e / 8) s.data.toList[e / 8] (List.getElem?_eq_getElem hil)
            simp only [Int.natCast_ediv, Int.cast_ofNat_Int] at hix
            have hcv := hgb hil
            have hiff := Bits.end_byte _ e _ hV (by omega) h5
            rw [← hcv] at hiff
            have hc8 := s.data.toList[e / 8].toNat_lt
            generalize s.data.toList[e / 8].toNat = c at *
            have hq1 : (c : Int) / 2 ^ (e % 8) = ((c / 2 ^ (e % 8) : Nat) : Int) := by simp
            have hqle : c / 2 ^ (e % 8) ≤ c := Nat.div_le_self _ _
            have h5I : ((e : Int) % 8 != 0) = true := by rw [bne_iff_ne]; omega
            have h5J : ((e : Int) % 8 == 0) = false := by rw [beq_eq_false_iff_ne]; omega
            generalize c / 2 ^ (e % 8) = b at *
            have hbI : (b : Int) ≤ 255 := by omega
            have hcI : (c : Int) ≤ 255 := by omega
            have hF0 : (0 : Int) ≤ (e : Int) / 8 := by omega
            have hF1 : (e : Int) / 8 < (s.size : Int) := by omega
            have hF2 : (0 : Int) ≤ (e : Int) % 8 := by omega
            have hF3 : (e : Int) % 8 ≤ 7 := by omega
            by_cases h6 : b = 0
            · have HC := hid (HF3.out (by omega) (hiff.1 h6))
              subst h6
              clear hV hgb hsz h5 he hm hk hmk hlen h4 hiff hcv hil hi hc8 hqle
              go_enter Try.func99, Try.ntmps99
              go_wp2_with (first
                | (go_at_call 60; refine (C42 _).out.mono ?_; rintro e w2 ⟨rfl, rfl⟩)
                | (go_at_call 102; refine (CS _).out.mono ?_; rintro e w3 ⟨rfl, rfl⟩))
              go_returns
              exact ⟨by rw [HC.out]; rfl, rfl⟩
            · have HC := hid (HF2.out fun h => h6 (hiff.2 h))
              have h7 : ((b : Int) != 0) = true := by rw [bne_iff_ne]; omega
              have h8 : ((b : Int) == 0) = false := by rw [beq_eq_false_iff_ne]; omega
              clear hV hgb hsz h5 he hm hk hmk hlen h4 hiff hcv hil hi hc8 hqle
              go_enter Try.func99, Try.ntmps99
              go_wp2_with (first
                | (go_at_call 60; refine (C42 _).out.mono ?_; rintro e w2 ⟨rfl, rfl⟩)
                | (go_at_call 102; refine (CS _).out.mono ?_; rintro e w3 ⟨rfl, rfl⟩))
              go_returns
              exact ⟨by rw [HC.out]; rfl, rfl⟩
        · have HC := hid (HF1.out h4)
          have h4I : ((s.size : Int) != (Q : Int)) = true := by rw [bne_iff_ne]; omega
          have h4J : ((s.size : Int) == (Q : Int)) = false := by rw [beq_eq_false_iff_ne]; omega
          clear hV hgb hsz he hm hk hmk hlen h4
          go_enter Try.func99, Try.ntmps99
          go_wp2_with (first
            | (go_at_call 60; refine (C42 _).out.mono ?_; rintro e w2 ⟨rfl, rfl⟩)
            | (go_at_call 102; refine (CS _).out.mono ?_; rintro e w3 ⟨rfl, rfl⟩))
          go_returns
          exact ⟨by rw [HC.out]; rfl, rfl⟩
  · rw [decide_eq_false h1] at C42
    rw [Bits.chk_range (.inl h1)]
    clear h1
    go_enter Try.func99, Try.ntmps99
    go_wp2_with (go_at_call 60; refine (C42 _).out.mono ?_; rintro e w2 ⟨rfl, rfl⟩)
    go_returns
    exact ⟨rfl, rfl⟩
end Go.Proofs.Ytdblegdbfdhepaa
