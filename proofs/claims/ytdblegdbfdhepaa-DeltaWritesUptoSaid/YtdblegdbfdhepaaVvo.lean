/- Vary: the document's own: VaryOf: its walk. -/
import Derived.Test.YtdblegdbfdhepaaVvl
import Derived.Test.YtdblegdbfdhepaaVob
namespace Hy.Vary
theorem head_lt (l : List UInt8) (i : Nat) (hi : i ≤ 7) : unbe 0 (l.take i) ≤ 72057594037927935 := by
  have h1 := unbe_lt (l.take i)
  have h2 : 256 ^ (l.take i).length ≤ 256 ^ 7 := Nat.pow_le_pow_right (by decide) (by rw [List.length_take]; omega)
  omega
theorem head_lt8 (l : List UInt8) (i : Nat) (hi : i ≤ 8) : unbe 0 (l.take i) ≤ 18446744073709551615 := by
  have h1 := unbe_lt (l.take i)
  have h2 : 256 ^ (l.take i).length ≤ 256 ^ 8 := Nat.pow_le_pow_right (by decide) (by rw [List.length_take]; omega)
  omega
theorem head_sub (c : UInt8) (q : List UInt8) (h : lead (ones c.toNat) ≤ c.toNat) : unbe 0 (c :: q) - lead (ones c.toNat) * 256 ^ q.length = unbe (c.toNat - lead (ones c.toNat)) q ∧ lead (ones c.toNat) * 256 ^ q.length ≤ unbe 0 (c :: q) := by
  rw [unbe_cons, unbe_eq, unbe_eq (c.toNat - _), Nat.zero_mul, Nat.zero_add, Nat.sub_mul]
  have : lead (ones c.toNat) * 256 ^ q.length ≤ c.toNat * 256 ^ q.length := Nat.mul_le_mul_right _ h
  omega
theorem head_mod (c : UInt8) (q : List UInt8) (h : q.length = 8) : unbe 0 (c :: q) % 18446744073709551616 = unbe 0 q := by
  rw [unbe_cons, unbe_eq, h, Nat.zero_mul, Nat.zero_add]
  have := unbe_lt q
  rw [h] at this
  omega
theorem lead_pow_le (k j : Nat) (hj : j ≤ 7) : lead k * 256 ^ j ≤ 18446744073709551615 := by
  have h1 := lead_lt k
  have h2 : 256 ^ j ≤ 256 ^ 7 := Nat.pow_le_pow_right (by decide) hj
  have : lead k * 256 ^ j ≤ 255 * 256 ^ 7 := Nat.mul_le_mul h1 h2
  omega
end Hy.Vary
namespace Go.Proofs.Ytdblegdbfdhepaa
open Go.RowKit Hy
set_option maxHeartbeats 1000000 in
theorem varyOf_any (s : ByteArray) (w : World) (hs : s.size ≤ 281474976710656) :
    Calls Try.prog 57 #[.string s] w fun e w' => e = .returned (.tuple #[.int .u64 (Vary.rd s.data.toList).1, .int .i64 (Vary.rd s.data.toList).2.1, .int .i64 (Vary.rd s.data.toList).2.2]) ∧ Ext w w' := by
  cases h0 : s.data.toList with
  | nil =>
    rw [Vary.rd_nil]
    have h1 : s.size = 0 := by have := congrArg List.length h0; rw [Array.length_toList] at this; exact this
    have h2 : ((s.size : Int) == 0) = true := by rw [h1]; rfl
    clear h0 h1
    go_enter Try.func57, Try.ntmps57
    go_wp2
    go_returns
    exact ⟨rfl, ext_refl _⟩
  | cons c t =>
    have hz : s.size = t.length + 1 := by have := congrArg List.length h0; rw [Array.length_toList] at this; exact this
    have h2 : ((s.size : Int) == 0) = false := by rw [beq_eq_false_iff_ne]; omega
    have hx := fun w : World => run_ix0 (P := Try.prog) (w := w) Try.underlying9 s .i64 c t h0
    obtain ⟨k8, f1, f2, f3⟩ := Vary.ones_fact c
    have hcl := c.toNat_lt
    have CL := fun w : World => hid (varyLen_any c.toNat w hcl)
    have hcI : (c.toNat : Int) ≤ 255 := by omega
    have HZ := hid hz
    have H0 := hid h0
    clear hz h0 hcl
    by_cases hsh : t.length < Vary.ones c.toNat
    · have HR := hid (Vary.rd_short c t hsh)
      generalize Vary.ones c.toNat = k at *
      have h5 : s.size < k + 1 := by rw [HZ.out]; omega
      go_enter Try.func57, Try.ntmps57
      go_wp2_with (go_at_call 86; refine (CL _).out.mono ?_; rintro e w2 ⟨rfl, rfl⟩)
      go_returns
      exact ⟨by rw [HR.out]; rfl, ext_refl _⟩
    · have HR := hid (Vary.rd_cons c t hsh)
      have HI := hid (Vary.wr_num_iff c t hsh)
      have hnl := Vary.num_lt c t hsh
      have hl : (t.take (Vary.ones c.toNat)).length = Vary.ones c.toNat := by rw [List.length_take]; omega
      have hT := fun wx : World => run_to (P := Try.prog) (w := wx) Try.underlying9 s .i64 (Vary.ones c.toNat + 1) (by have := HZ.out; omega)
      rw [H0.out] at hT
      simp only [Int.natCast_add, Int.cast_ofNat_Int] at hT
      have HS1 := hid (Vary.head_sub c (t.take (Vary.ones c.toNat)) f1)
      have HS2 := hid (Vary.head_mod c (t.take (Vary.ones c.toNat)))
      have h80 : Vary.ones c.toNat = 8 → c.toNat - Vary.lead (Vary.ones c.toNat) = 0 := fun e => by
        have h9 := c.toNat_lt
        rw [e]; unfold Vary.lead; omega
      generalize Vary.ones c.toNat = k at *
      obtain ⟨N, hN⟩ : ∃ N, N = Vary.unbe (c.toNat - Vary.lead k) (t.take k) := ⟨_, rfl⟩
      rw [← hN] at HR HI hnl HS1
      have hNI : (N : Int) ≤ 18446744073709551615 := by omega
      have HN := hid hN
      have HL := hid hl
      have H80 := hid h80
      have h5 : k + 1 ≤ s.size := by have := HZ.out; omega
      have HTK := hid (show (c :: t).take (k + 1) = c :: t.take k from rfl)
      have HS1' := HS1.out
      rw [HL.out] at HS1'
      have HS3 := hid HS1'
      clear HS1 HS1' hN hl h80 f1 f2 f3 hsh hnl
      go_enter Try.func57, Try.ntmps57
      go_wp2_with (go_at_call 86; refine (CL _).out.mono ?_; rintro e w2 ⟨rfl, rfl⟩)
      clear hx CL
      have HT := hid hT
      clear hT
      go_loop [6, 7] (fun a b => ∃ i : Nat, i ≤ k + 1 ∧ b = .int .i64 i ∧ a = .int .u64 (Vary.unbe 0 ((c :: t.take k).take i) % 18446744073709551616 : Nat)) (fun _ b => k + 1 - (intOf b).toNat)
      case atStart => exact ⟨0, Nat.zero_le _, rfl, rfl⟩
      case round =>
        obtain ⟨i, hi, rfl, rfl⟩ := hrel
        by_cases hlt : i < k + 1
        · have hiq : i < (c :: t.take k).length := by simp only [List.length_cons, HL.out]; exact hlt
          have hget : (c :: t)[i]? = some ((c :: t.take k)[i]) := by rw [← List.getElem?_eq_getElem hiq, ← HTK.out, List.getElem?_take_of_lt hlt]
          have hix := fun wx : World => run_ix (P := Try.prog) (w := wx) Try.underlying9 s .i64 i (c :: t.take k)[i] (by rw [H0.out, hget])
          have HU := hid (show Vary.unbe 0 ((c :: t.take k).take (i + 1)) = Vary.unbe 0 ((c :: t.take k).take i) * 256 + (c :: t.take k)[i].toNat by rw [List.take_succ_eq_append_getElem hiq, Vary.unbe_snoc])
          have hb1 : ((c :: t.take k)[i].toNat : Int) ≤ 255 := by have := (c :: t.take k)[i].toNat_lt; omega
          have HX1 := hid (Vary.head_lt (c :: t.take k) i)
          have HX2 := hid (Vary.head_lt8 (c :: t.take k) i (by omega))
          clear hget
          generalize (c :: t.take k)[i].toNat = y at *
          generalize Vary.unbe 0 ((c :: t.take k).take i) = x at *
          clear hiq
          have hx2 := HX2.out
          rw [Nat.mod_eq_of_lt (by omega)]
          have hx2' : (x : Int) ≤ 18446744073709551615 := by omega
          clear hx2
          by_cases h7 : i ≤ 7
          · have hx1 : (x : Int) ≤ 72057594037927935 := by have := HX1.out h7; omega
            go_wp2
            go_round
            case rel => exact ⟨i + 1, by omega, by go_num, by rw [HU.out, Nat.mod_eq_of_lt (by omega)]; go_num⟩
            case measure => simp [intOf]; omega
          · go_wp2
            go_round
            case rel => exact ⟨i + 1, by omega, by go_num, by rw [HU.out]; congr 1; show (((x : Int) * 256) % 18446744073709551616 + (y : Int)) % 18446744073709551616 = _; omega⟩
            case measure => simp [intOf]; omega
        · obtain rfl : i = k + 1 := by omega
          have e1 : (c :: t.take k).take (k + 1) = c :: t.take k := List.take_of_length_le (by simp only [List.length_cons, HL.out]; exact Nat.le_refl _)
          rw [e1]
          clear e1 hlt hi
          have hT := HT.out
          by_cases hk8 : k < 8
          · have h8' := Vary.head_lt8 (c :: t.take k) (k + 1) (by omega)
            rw [show (c :: t.take k).take (k + 1) = c :: t.take k from List.take_of_length_le (by simp only [List.length_cons, HL.out]; exact Nat.le_refl _)] at h8'
            rw [Nat.mod_eq_of_lt (by omega)]
            obtain ⟨V, hV⟩ : ∃ V, V = Vary.unbe 0 (c :: t.take k) := ⟨_, rfl⟩
            have h3 := HS3.out
            have HPW := hid (Vary.lead_pow_le k)
            rw [← hV] at h3 h8' ⊢
            have hVI : (V : Int) ≤ 18446744073709551615 := by omega
            have HV1 := hid h3.1
            have hV2 : ((Vary.lead k * 256 ^ k : Nat) : Int) ≤ (V : Int) := by omega
            have HV2 := hid hV2
            clear h3 h8' hV hV2
            have hT2 := hid hT
            clear hT
            go_wp2
            go_loop [8, 9] (fun a b => ∃ j : Nat, j ≤ k ∧ b = .int .i64 j ∧ a = .int .u64 (Vary.lead j)) (fun _ b => k - (intOf b).toNat)
            case atStart => exact ⟨0, Nat.zero_le _, rfl, rfl⟩
            case round =>
              obtain ⟨j, hj, rfl, rfl⟩ := hrel
              by_cases hjk : j < k
              · have HNx := hid (Vary.lead_next ⟨j, by omega⟩)
                have hlj : (Vary.lead j : Int) ≤ 255 := by have := Vary.lead_lt j; omega
                go_wp2
                go_round
                case rel => exact ⟨j + 1, by omega, by go_num, by rw [HNx.out]; go_num⟩
                case measure => simp [intOf]; omega
              · obtain rfl : j = k := by omega
                clear hjk
                go_wp2
                go_loop [8, 10] (fun a b => ∃ i : Nat, i ≤ j ∧ b = .int .i64 (i + 1 : Nat) ∧ a = .int .u64 (Vary.lead j * 256 ^ i : Nat)) (fun _ b => j + 1 - (intOf b).toNat)
                case atStart => exact ⟨0, Nat.zero_le _, rfl, by simp⟩
                case round =>
                  obtain ⟨i, hi, rfl, rfl⟩ := hrel
                  by_cases hij : i < j
                  · have HM := hid (show Vary.lead j * 256 ^ (i + 1) = Vary.lead j * 256 ^ i * 256 by rw [Nat.pow_succ, Nat.mul_assoc])
                    have hm := HPW.out (i + 1) (by omega)
                    rw [HM.out] at hm
                    generalize Vary.lead j * 256 ^ i = M at *
                    have hmI : (M : Int) * 256 ≤ 18446744073709551615 := by omega
                    clear hm
                    go_wp2
                    go_round
                    case rel => exact ⟨i + 1, by omega, by go_num, by rw [HM.out]; go_num⟩
                    case measure => simp [intOf]; omega
                  · obtain rfl : i = j := by omega
                    clear hij
                    have hv1 := HV1.out
                    have hv2 := HV2.out
                    generalize Vary.lead i * 256 ^ i = M at *
                    have e7 : (V : Int) - (M : Int) = (N : Int) := by omega
                    have hT := hT2.out
                    clear hv1
                    have HC := fun wx : World => hid (varyBytes_any N wx (by omega))
                    obtain ⟨W, hW⟩ : ∃ W : ByteArray, W = ⟨(Vary.wr N).toArray⟩ := ⟨_, rfl⟩
                    obtain ⟨T, hTT⟩ : ∃ T : ByteArray, T = ⟨((c :: t).take (i + 1)).toArray⟩ := ⟨_, rfl⟩
                    have G20 : Gives Try.prog 37 #[.int .u64 N] (.string W) := fun wx => by rw [hW]; exact (HC wx).out
                    rw [← hTT] at hT
                    by_cases hbk : Vary.beh N = i
                    · have e1 : (W.toList == T.toList) = true := by rw [hW, hTT, ByteArray.toList_mk, ByteArray.toList_mk, HI.out.2 hbk]; simp
                      have HR3 := HR.out
                      rw [if_pos hbk] at HR3
                      have HR4 := hid HR3
                      clear HR3 hbk hW hTT HC
                      go_wp2_with fail
                      refine wp_region_quiet_below (by kernel_rfl) (by kernel_rfl) ?_
                      repeat (go_big_quiet_step ((go_at_call 37; exact G20.quiet _ _ _)))
                      refine wpQuiet_nil ?_
                      intro w9 hw9
                      obtain ⟨p, rfl⟩ := hw9
                      go_wp2
                      go_returns
                      exact ⟨by rw [HR4.out]; rfl, ext_regrown _ p⟩
                    · have e1 : (W.toList == T.toList) = false := by
                        rw [hW, hTT, ByteArray.toList_mk, ByteArray.toList_mk, beq_eq_false_iff_ne]
                        exact fun h => hbk (HI.out.1 h)
                      have HR3 := HR.out
                      rw [if_neg hbk] at HR3
                      have HR4 := hid HR3
                      clear HR3 hbk hW hTT HC
                      go_wp2_with fail
                      refine wp_region_quiet_below (by kernel_rfl) (by kernel_rfl) ?_
                      repeat (go_big_quiet_step ((go_at_call 37; exact G20.quiet _ _ _)))
                      refine wpQuiet_nil ?_
                      intro w9 hw9
                      obtain ⟨p, rfl⟩ := hw9
                      go_wp2
                      go_returns
                      exact ⟨by rw [HR4.out]; rfl, ext_regrown _ p⟩
          · have h9 : (8 : Int) ≤ (k : Int) := by omega
            rw [HS2.out (by rw [HL.out]; omega), show Vary.unbe 0 (t.take k) = N from by rw [HN.out, H80.out (by omega)]]
            clear hk8
            have HC := fun wx : World => hid (varyBytes_any N wx (by omega))
            obtain ⟨W, hW⟩ : ∃ W : ByteArray, W = ⟨(Vary.wr N).toArray⟩ := ⟨_, rfl⟩
            obtain ⟨T, hTT⟩ : ∃ T : ByteArray, T = ⟨((c :: t).take (k + 1)).toArray⟩ := ⟨_, rfl⟩
            have G20 : Gives Try.prog 37 #[.int .u64 N] (.string W) := fun wx => by rw [hW]; exact (HC wx).out
            rw [← hTT] at hT
            by_cases hbk : Vary.beh N = k
            · have e1 : (W.toList == T.toList) = true := by rw [hW, hTT, ByteArray.toList_mk, ByteArray.toList_mk, HI.out.2 hbk]; simp
              have HR3 := HR.out
              rw [if_pos hbk] at HR3
              have HR4 := hid HR3
              clear HR3 hbk hW hTT HC
              go_wp2_with fail
              refine wp_region_quiet_below (by kernel_rfl) (by kernel_rfl) ?_
              repeat (go_big_quiet_step ((go_at_call 37; exact G20.quiet _ _ _)))
              refine wpQuiet_nil ?_
              intro w9 hw9
              obtain ⟨p, rfl⟩ := hw9
              go_wp2
              go_returns
              exact ⟨by rw [HR4.out]; rfl, ext_regrown _ p⟩
            · have e1 : (W.toList == T.toList) = false := by
                rw [hW, hTT, ByteArray.toList_mk, ByteArray.toList_mk, beq_eq_false_iff_ne]
                exact fun h => hbk (HI.out.1 h)
              have HR3 := HR.out
              rw [if_neg hbk] at HR3
              have HR4 := hid HR3
              clear HR3 hbk hW hTT HC
              go_wp2_with fail
              refine wp_region_quiet_below (by kernel_rfl) (by kernel_rfl) ?_
              repeat (go_big_quiet_step ((go_at_call 37; exact G20.quiet _ _ _)))
              refine wpQuiet_nil ?_
              intro w9 hw9
              obtain ⟨p, rfl⟩ := hw9
              go_wp2
              go_returns
              exact ⟨by rw [HR4.out]; rfl, ext_regrown _ p⟩
end Go.Proofs.Ytdblegdbfdhepaa
