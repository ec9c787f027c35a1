/- Vary: Read: its walk. -/
import Derived.Test.YtdblegdbfdhepaaVaw
namespace Hy.Vary
theorem rd_k8 (c : UInt8) : (8 - (Go.Lib.bitLen (255 - c.toNat) : Int)) = (ones c.toNat : Int) := by
  have := (Go.Lib.bitLen_le (255 - c.toNat) 8 (by decide) (by have := c.toNat_lt; omega))
  unfold ones; omega
end Hy.Vary
namespace Go.Proofs.Ytdblegdbfdhepaa
open Go.RowKit Hy
set_option maxRecDepth 100000 in
set_option maxHeartbeats 1000000 in
theorem read_any (s : ByteArray) (w : World) :
    Calls Try.prog 79 #[.string s] w fun e w' => e = .returned (.tuple #[.int .u64 (Vary.rd s.data.toList).1, .int .i64 (Vary.rd s.data.toList).2.1, .int .i64 (Vary.rd s.data.toList).2.2]) ∧ Ext w w' := by
  cases h0 : s.data.toList with
  | nil =>
    rw [Vary.rd_nil]
    have h1 : s.toList = [] := by rw [ByteArray.toList_eq]; exact h0
    clear h0
    go_enter Try.func79, Try.ntmps79
    go_wp2
    go_returns
    exact ⟨rfl, ext_refl _⟩
  | cons c t =>
    have hz : s.size = t.length + 1 := by have := congrArg List.length h0; rw [Array.length_toList] at this; exact this
    have h1 : s.toList.isEmpty = false := by rw [ByteArray.toList_eq, h0]; rfl
    have h2 : (s.toList == []) = false := by rw [ByteArray.toList_eq, h0]; rfl
    have hx := fun w : World => run_ix0 (P := Try.prog) (w := w) Try.underlying9 s .i64 c t h0
    have hxo := xor_u8 c
    obtain ⟨k8, f1, f2, f3⟩ := Vary.ones_fact c
    have hk := Vary.rd_k8 c
    have hcl := c.toNat_lt
    have C35 := fun w : World => hid (Try.bits_LeadingZeros8 (255 - (c.toNat : Int)) w (by omega) (by omega))
    rw [show (255 - (c.toNat : Int)).toNat = 255 - c.toNat from by omega, hk] at C35
    have HZ := hid hz
    have H0 := hid h0
    have hsz : (s.size : Int) = (t.length : Int) + 1 := by omega
    have hcI : (c.toNat : Int) ≤ 255 := by omega
    clear hz h0 hk hcl
    by_cases hsh : t.length < Vary.ones c.toNat
    · have HR := hid (Vary.rd_short c t hsh)
      generalize Vary.ones c.toNat = k at *
      have h5 : s.size ≤ k := by rw [HZ.out]; omega
      clear hsz
      go_enter Try.func79, Try.ntmps79
      go_wp2_with (go_at_call 96; refine (C35 _).out.mono ?_; rintro e w2 ⟨rfl, rfl⟩)
      go_returns
      exact ⟨by rw [HR.out]; rfl, ext_refl _⟩
    · have HR := hid (Vary.rd_cons c t hsh)
      have hnl := Vary.num_lt c t hsh
      have hb8 := Vary.beh_le8 (Vary.unbe (c.toNat - Vary.lead (Vary.ones c.toNat)) (t.take (Vary.ones c.toNat)))
      have hl : (t.take (Vary.ones c.toNat)).length = Vary.ones c.toNat := by rw [List.length_take]; omega
      have hT := fun wx : World => run_fromto (P := Try.prog) (w := wx) Try.underlying9 s .i64 .i64 1 (Vary.ones c.toNat + 1) (by omega) (by have := HZ.out; omega)
      rw [H0.out] at hT
      simp only [List.drop_succ_cons, List.drop_zero, Nat.add_sub_cancel, Int.natCast_add, Int.cast_ofNat_Int] at hT
      have hand := Vary.ones_and c
      have hpart := fun i => Vary.part_le c t i hsh
      have h80 : Vary.ones c.toNat = 8 → c.toNat - Vary.lead (Vary.ones c.toNat) = 0 := fun e => by
        have h9 := c.toNat_lt
        rw [e]; unfold Vary.lead; omega
      generalize Vary.ones c.toNat = k at *
      have hF : k < 8 → (bits .and .u64 (c.toNat : Int) (127 / 2 ^ k)) = ((c.toNat - Vary.lead k : Nat) : Int) := hand
      have h5 : k < s.size := by have := HZ.out; omega
      have hcv := fun (wx : World) (X : ByteArray) => run_bytes_of_string (P := Try.prog) wx 9 65 5 X Try.underlying9 Try.underlying65 Try.underlying5
      obtain ⟨m, hm⟩ : ∃ m, m = c.toNat - Vary.lead k := ⟨_, rfl⟩
      obtain ⟨q, hq⟩ : ∃ q, q = t.take k := ⟨_, rfl⟩
      obtain ⟨S, hS⟩ : ∃ S : ByteArray, S = ⟨q.toArray⟩ := ⟨_, rfl⟩
      rw [← hm] at hF HR hnl hb8 h80
      simp only [← hm] at hpart
      rw [← hq] at HR hT hl hnl hb8
      simp only [← hq] at hpart
      rw [← hS] at hT
      have HM := hid hm
      have HQ := hid hq
      have HS := hid hS
      have HP := hid hpart
      have HL := hid hl
      clear hm hq hS f1 f2 f3 hsh hand hpart hl
      have hqz : S.size = k := by rw [HS.out, str_size, HL.out]
      have hN : Vary.unbe m q ≤ 18446744073709551615 := by omega
      clear hnl
      rcases Nat.lt_or_ge k 8 with h8 | h8
      · have hF8 := hF h8
        clear hF h80
        go_enter Try.func79, Try.ntmps79
        go_wp2_with (go_at_call 96; refine (C35 _).out.mono ?_; rintro e w2 ⟨rfl, rfl⟩)
        go_loopw [6, 8, 34] (fun a _ c wr => ∃ i : Nat, i ≤ k ∧ c = .int .i64 i ∧ a = .int .u64 (Vary.unbe m (q.take i) : Nat) ∧ Rd wr (some ⟨w2.heap.size, 0, none⟩) (u8s q) ∧ Ext w2 wr) (fun _ _ c _ => k - (intOf c).toNat)
        case atStart => exact ⟨0, Nat.zero_le _, rfl, rfl, by have := (rd_bytes (w := w2) (g := w2.heap.size) (c := grownCap w2 k 0 5) (s := S) (e := 5) (fz := ((bytesRow S (grownCap w2 k 0 5)).size, (bytesRow S (grownCap w2 k 0 5)).size + 1)) rfl).keep (ext_refl _).draw; rw [HS.out] at this ⊢; exact this, (ext_refl _).draw.new _⟩
        case round =>
          obtain ⟨i, hi, rfl, rfl, hrd, X⟩ := hrel
          clear hcv hT
          by_cases hlt : i < k
          · obtain ⟨b, o, e0, hb, hcell⟩ := hrd (by rw [u8s_len, HL.out]; omega)
            simp only [Option.some.injEq, Addr.mk.injEq, and_true] at e0
            obtain ⟨rfl, rfl⟩ := e0
            have hiq : i < q.length := by rw [HL.out]; exact hlt
            have hc := hcell i (.int .u8 (q[i].toNat : Int)) (by simp [u8s, hiq])
            rw [Nat.zero_add] at hc
            have HU := hid (show Vary.unbe m (q.take (i + 1)) = Vary.unbe m (q.take i) * 256 + q[i].toNat by rw [List.take_succ_eq_append_getElem hiq, Vary.unbe_snoc])
            have hx1 : (Vary.unbe m (q.take i) : Int) ≤ 72057594037927935 := by have := HP.out i hlt; omega
            have hO := or_byte (Vary.unbe m (q.take i)) q[i].toNat (by omega) q[i].toNat_lt
            have hb1 : (q[i].toNat : Int) ≤ 255 := by have := q[i].toNat_lt; omega
            have HR2 := hid hrd
            clear hrd hcell
            generalize q[i].toNat = y at *
            generalize Vary.unbe m (q.take i) = x at *
            clear hiq
            go_wp2
            go_roundw
            case rel => exact ⟨i + 1, by omega, by go_num, by rw [HU.out]; go_num, HR2.out, X⟩
            case measure => simp [intOf]; omega
          · obtain rfl : i = k := by omega
            have HC := fun wx : World => hid (behind_any (Vary.unbe m q) wx (by omega))
            have e1 : q.take i = q := List.take_of_length_le (by rw [HL.out]; exact Nat.le_refl _)
            rw [e1]
            clear e1 hrd
            by_cases hbk : Vary.beh (Vary.unbe m q) = i
            · rw [hbk] at HC
              have HR3 := HR.out
              rw [if_pos hbk] at HR3
              have HR4 := hid HR3
              clear HR3 hbk
              generalize Vary.unbe m q = N at *
              go_wp2_with (go_at_call 90; refine (HC _).out.mono ?_; rintro e w5 ⟨rfl, rfl⟩)
              go_returns
              exact ⟨by rw [HR4.out]; rfl, X⟩
            · have HR3 := HR.out
              rw [if_neg hbk] at HR3
              have HR4 := hid HR3
              have h3 : ((Vary.beh (Vary.unbe m q) : Int) != (i : Int)) = true := by rw [bne_iff_ne]; omega
              have h4 : ((Vary.beh (Vary.unbe m q) : Int) == (i : Int)) = false := by rw [beq_eq_false_iff_ne]; omega
              clear HR3 hbk
              generalize Vary.beh (Vary.unbe m q) = bb at *
              generalize Vary.unbe m q = N at *
              go_wp2_with (go_at_call 90; refine (HC _).out.mono ?_; rintro e w5 ⟨rfl, rfl⟩)
              go_returns
              exact ⟨by rw [HR4.out]; rfl, X⟩
      · obtain rfl := h80 (by omega)
        have h8' : (8 : Int) ≤ (k : Int) := by omega
        clear hF h80 h8
        go_enter Try.func79, Try.ntmps79
        go_wp2_with (go_at_call 96; refine (C35 _).out.mono ?_; rintro e w2 ⟨rfl, rfl⟩)
        go_loopw [6, 8, 34] (fun a _ c wr => ∃ i : Nat, i ≤ k ∧ c = .int .i64 i ∧ a = .int .u64 (Vary.unbe 0 (q.take i) : Nat) ∧ Rd wr (some ⟨w2.heap.size, 0, none⟩) (u8s q) ∧ Ext w2 wr) (fun _ _ c _ => k - (intOf c).toNat)
        case atStart => exact ⟨0, Nat.zero_le _, rfl, rfl, by have := (rd_bytes (w := w2) (g := w2.heap.size) (c := grownCap w2 k 0 5) (s := S) (e := 5) (fz := ((bytesRow S (grownCap w2 k 0 5)).size, (bytesRow S (grownCap w2 k 0 5)).size + 1)) rfl).keep (ext_refl _).draw; rw [HS.out] at this ⊢; exact this, (ext_refl _).draw.new _⟩
        case round =>
          obtain ⟨i, hi, rfl, rfl, hrd, X⟩ := hrel
          clear hcv hT
          by_cases hlt : i < k
          · obtain ⟨b, o, e0, hb, hcell⟩ := hrd (by rw [u8s_len, HL.out]; omega)
            simp only [Option.some.injEq, Addr.mk.injEq, and_true] at e0
            obtain ⟨rfl, rfl⟩ := e0
            have hiq : i < q.length := by rw [HL.out]; exact hlt
            have hc := hcell i (.int .u8 (q[i].toNat : Int)) (by simp [u8s, hiq])
            rw [Nat.zero_add] at hc
            have HU := hid (show Vary.unbe 0 (q.take (i + 1)) = Vary.unbe 0 (q.take i) * 256 + q[i].toNat by rw [List.take_succ_eq_append_getElem hiq, Vary.unbe_snoc])
            have hx1 : (Vary.unbe 0 (q.take i) : Int) ≤ 72057594037927935 := by have := HP.out i hlt; omega
            have hO := or_byte (Vary.unbe 0 (q.take i)) q[i].toNat (by omega) q[i].toNat_lt
            have hb1 : (q[i].toNat : Int) ≤ 255 := by have := q[i].toNat_lt; omega
            have HR2 := hid hrd
            clear hrd hcell
            generalize q[i].toNat = y at *
            generalize Vary.unbe 0 (q.take i) = x at *
            clear hiq
            go_wp2
            go_roundw
            case rel => exact ⟨i + 1, by omega, by go_num, by rw [HU.out]; go_num, HR2.out, X⟩
            case measure => simp [intOf]; omega
          · obtain rfl : i = k := by omega
            have HC := fun wx : World => hid (behind_any (Vary.unbe 0 q) wx (by omega))
            have e1 : q.take i = q := List.take_of_length_le (by rw [HL.out]; exact Nat.le_refl _)
            rw [e1]
            clear e1 hrd
            by_cases hbk : Vary.beh (Vary.unbe 0 q) = i
            · rw [hbk] at HC
              have HR3 := HR.out
              rw [if_pos hbk] at HR3
              have HR4 := hid HR3
              clear HR3 hbk
              generalize Vary.unbe 0 q = N at *
              go_wp2_with (go_at_call 90; refine (HC _).out.mono ?_; rintro e w5 ⟨rfl, rfl⟩)
              go_returns
              exact ⟨by rw [HR4.out]; rfl, X⟩
            · have HR3 := HR.out
              rw [if_neg hbk] at HR3
              have HR4 := hid HR3
              have h3 : ((Vary.beh (Vary.unbe 0 q) : Int) != (i : Int)) = true := by rw [bne_iff_ne]; omega
              have h4 : ((Vary.beh (Vary.unbe 0 q) : Int) == (i : Int)) = false := by rw [beq_eq_false_iff_ne]; omega
              clear HR3 hbk
              generalize Vary.beh (Vary.unbe 0 q) = bb at *
              generalize Vary.unbe 0 q = N at *
              go_wp2_with (go_at_call 90; refine (HC _).out.mono ?_; rintro e w5 ⟨rfl, rfl⟩)
              go_returns
              exact ⟨by rw [HR4.out]; rfl, X⟩
end Go.Proofs.Ytdblegdbfdhepaa
