/- Bits: the sink's put: its walk. -/
import Derived.Test.YtdblegdbfdhepaaBiw
namespace Hy
open Go Go.RowKit
/-- the sink at block g: what it owns lies behind g; U: the number of its T bits -/
def Sink (g : Nat) (tk te : TypeId) (U T : Nat) (w : World) : Prop := ∃ v, Blk w g tk #[v, .int .u64 ((T % 8 : Nat) : Int)] ∧ w.ownsRow (g + 1) te 1 v ((T + 7) / 8) (u8s (Bits.leb U ((T + 7) / 8))) ∧ U < 2 ^ T
end Hy
namespace Go.Proofs.Ytdblegdbfdhepaa
open Go.RowKit Hy
set_option maxRecDepth 100000 in
set_option maxHeartbeats 800000 in
theorem put_any (g U T n wd : Nat) (w : World) (hI : Sink g 94 5 U T w) (hT : T ≤ 1000000) (hw : wd ≤ 64) (hn : n < 18446744073709551616) :
    Calls Try.prog 88 #[.pointer (some ⟨g, 0, none⟩), .int .u64 n, .int .i64 wd] w fun e w' => e = .returned (.tuple #[]) ∧ Sink g 94 5 (U + n % 2 ^ wd * 2 ^ T) (T + wd) w' ∧ Below g w w' := by
  have HI := hid hI
  clear hI
  go_enter Try.func88, Try.ntmps88
  go_wp2
  go_loopw [1, 2, 6] (fun a b _ wr => ∃ j : Nat, j ≤ wd ∧ a = .int .u64 (n / 2 ^ j : Nat) ∧ b = .int .i64 (wd - j : Nat) ∧ Sink g 94 5 (U + n % 2 ^ j * 2 ^ T) (T + j) wr ∧ Below g w wr) (fun _ b _ _ => (intOf b).toNat)
  case atStart => exact ⟨0, Nat.zero_le _, by simp, rfl, by simpa [Nat.mod_one] using HI.out, Below.refl _ _⟩
  case round =>
    obtain ⟨j, hj, rfl, rfl, hS, X⟩ := hrel
    by_cases hlt : j < wd
    · obtain ⟨v, B, hown, hU⟩ := hS
      have hm : n / 2 ^ j < 18446744073709551616 := Nat.lt_of_le_of_lt (Nat.div_le_self _ _) hn
      have HN1 := hid (Bits.put_next U T n j)
      have HN2 := hid (Bits.div_next n j)
      generalize U + n % 2 ^ j * 2 ^ T = Uj at *
      generalize n / 2 ^ j = m at *
      obtain ⟨Tj, hTj⟩ : ∃ Tj, Tj = T + j := ⟨_, rfl⟩
      rw [← hTj] at B hown hU
      obtain ⟨h, hh⟩ : ∃ h, h = Tj % 8 := ⟨_, rfl⟩
      rw [← hh] at B
      have h7 : (h : Int) ≤ 7 := by omega
      obtain ⟨d, hd⟩ : ∃ d, d = wd - j := ⟨_, rfl⟩
      rw [← hd]
      have hd1 : (1 : Int) ≤ (d : Int) := by omega
      have hd2 : (d : Int) ≤ 64 := by omega
      have hmI : (m : Int) ≤ 18446744073709551615 := by omega
      have hkk := Int.min_le_left (d : Int) (8 - (h : Int))
      have hkk2 := Int.min_le_right (d : Int) (8 - (h : Int))
      obtain ⟨k, hk⟩ : ∃ k : Nat, min (d : Int) (8 - (h : Int)) = (k : Int) := ⟨(min (d : Int) (8 - (h : Int))).toNat, by omega⟩
      have hk1 : (1 : Int) ≤ (k : Int) := by omega
      have hk8 : (k : Int) + (h : Int) ≤ 8 := by omega
      have hkd : (k : Int) ≤ (d : Int) := by omega
      obtain ⟨p, hp⟩ : ∃ p, p = Tj / 8 := ⟨_, rfl⟩
      have HST := hid (Bits.put_step Uj Tj (m % 2 ^ k) k hU (Nat.mod_lt _ (Nat.two_pow_pos k)))
      have HPZ := hid (Bits.put_zero Uj Tj hU)
      rw [← hp, ← hh] at HST
      rw [← hp, ← hh] at HPZ
      have ha1 : Uj / 256 ^ p < 2 ^ h := HST.out.2.1
      have HCP := hid (show (u8s (Bits.leb Uj (p + 1)))[p]? = some (.int .u8 ((Uj / 256 ^ p : Nat) : Int)) by
        unfold u8s
        have h128 : 2 ^ h ≤ 2 ^ 7 := Nat.pow_le_pow_right (by decide) (by omega)
        rw [List.getElem?_map, Bits.leb_get _ _ _ (Nat.lt_succ_self p), Option.map_some, UInt8.toNat_ofNat', Nat.mod_eq_of_lt (by omega)])
      have hx : m % 2 ^ k < 2 ^ k := Nat.mod_lt _ (Nat.two_pow_pos k)
      have hkN : k + h ≤ 8 := by omega
      have h28 : 2 ^ (k + h) ≤ 2 ^ 8 := Nat.pow_le_pow_right (by decide) hkN
      have hxh : m % 2 ^ k * 2 ^ h + 2 ^ h ≤ 256 := by
        have : (m % 2 ^ k + 1) * 2 ^ h ≤ 2 ^ k * 2 ^ h := Nat.mul_le_mul_right _ hx
        rw [← Nat.pow_add, Nat.add_mul, Nat.one_mul] at this
        omega
      have h2k : 2 ^ k ≤ 2 ^ 8 := Nat.pow_le_pow_right (by decide) (by omega)
      have hw1 : IntKind.u64.wrap ((2 : Int) ^ k) = ((2 ^ k : Nat) : Int) := by
        show ((2 : Int) ^ k) % 18446744073709551616 = _
        rw [show (2 : Int) ^ k = ((2 ^ k : Nat) : Int) from by simp]; omega
      have h2p := Nat.two_pow_pos k
      have hw2 : IntKind.u64.wrap (((2 ^ k : Nat) : Int) - 1) = ((2 ^ k : Nat) : Int) - 1 := by
        show (((2 ^ k : Nat) : Int) - 1) % 18446744073709551616 = _
        omega
      have hw3 := Bits.and_mask m k hm (by omega)
      have hw4 : IntKind.u8.wrap ((m % 2 ^ k : Nat) : Int) = ((m % 2 ^ k : Nat) : Int) := by
        show ((m % 2 ^ k : Nat) : Int) % 256 = _
        omega
      have hw5 : IntKind.u8.wrap (((m % 2 ^ k : Nat) : Int) * 2 ^ h) = ((m % 2 ^ k * 2 ^ h : Nat) : Int) := by
        have := Nat.two_pow_pos h
        show (((m % 2 ^ k : Nat) : Int) * 2 ^ h) % 256 = _
        rw [show ((m % 2 ^ k : Nat) : Int) * (2 : Int) ^ h = ((m % 2 ^ k * 2 ^ h : Nat) : Int) from by simp]; omega
      have hw6 := Bits.or_u8 (Uj / 256 ^ p) (m % 2 ^ k) h ha1 (by omega)
      obtain ⟨z, hz⟩ : ∃ z, z = Uj / 256 ^ p + m % 2 ^ k * 2 ^ h := ⟨_, rfl⟩
      rw [← hz] at hw6 HST
      have hzI : (z : Int) ≤ 255 := by omega
      have HX := hid (Eq.refl (m % 2 ^ k))
      obtain ⟨x, hxe⟩ : ∃ x, x = m % 2 ^ k := ⟨_, rfl⟩
      rw [← hxe] at hw3 hw4 hw5 hw6 HST
      obtain ⟨y, hye⟩ : ∃ y, y = x * 2 ^ h := ⟨_, rfl⟩
      rw [← hye] at hw5 hw6
      obtain ⟨K2, hK2⟩ : ∃ K2 : Int, K2 = ((2 ^ k : Nat) : Int) := ⟨_, rfl⟩
      rw [← hK2] at hw1 hw2 hw3
      obtain ⟨a, hae⟩ : ∃ a, a = Uj / 256 ^ p := ⟨_, rfl⟩
      rw [← hae] at hw6 HCP
      have HXE := hid hxe
      clear hx h28 hxh h2k h2p hz hxe hye hK2 hae HX hkN
      have HTJ := hid hTj
      have HH := hid hh
      have HD := hid hd
      have HP := hid hp
      have HU := hid hU
      by_cases h0 : h = 0
      · have e0 : (Tj + 7) / 8 = p := by omega
        rw [e0] at hown
        have hz : ((h : Int) == 0) = true := by rw [h0]; rfl
        have hpI : (p : Int) ≤ 1000000 := by omega
        have HZ0 := hid (HPZ.out h0)
        have HL := hid (show (Bits.leb Uj p).length = p from Bits.leb_len _ _)
        have hglt := B.lt
        have HO := hid hown
        have HB := hid B
        have hc0 := B.cell 0
        have hc1 := B.cell 1
        clear hTj hh hd hU hm hkk hkk2 hp e0 ha1 h0
        clear B hown
        go_wp2_with (at_builtin; refine wpList_app rfl (.tmp 18) (.tmp 19) rowU8 rfl _ p _ rfl (HO.out.alloc _) _ 1 (u8s [0]) rfl (Src.rd Try.underlying65 _ 1 1 _ rfl (rd_lit rfl rfl) (u8s_one _) (fun h => by cases h)) (by unfold maxLen; omega) (by omega) (by simp; omega) ?_; intro v' w3 hown3 hgrow hat hbel; obtain ⟨q, cap, rfl, hq1, hq2⟩ := hown3.form (Nat.succ_pos p); have hB3 := hid ((HB.out.alloc _).below hbel (Nat.lt_succ_self g)); have hO3 := hid hown3; have hc03 := hB3.out.cell 0; have hc13 := hB3.out.cell 1; have hf03 := hB3.out.frozen 0; have hX3 := hid ((X.alloc (Nat.le_of_lt HB.out.lt) _).trans (hbel.mono (Nat.le_succ g))); clear hown3 hgrow hat hbel)
        refine wp_gen (fun w' => Blk w' g 94 #[.slice (some ⟨q, 0, none⟩) (p + 1) cap, .int .u64 (h : Int)] ∧ w'.ownsRow (g + 1) 5 1 (.slice (some ⟨q, 0, none⟩) (p + 1) cap) (p + 1) (u8s (Bits.leb Uj (p + 1))) ∧ Below g w w') ⟨(hB3.out.set 0 _).cast rfl, by rw [← HZ0.out, u8s_app]; exact ownsRow_setCell_below hO3.out (Nat.lt_succ_self g) _, hX3.out.setCell (Nat.le_refl _) _⟩ ?_
        rintro wx ⟨B, hown, X⟩
        have hc0 := B.cell 0
        have hc1 := B.cell 1
        have hf1 := B.frozen 1
        have hcq := hown.cellAt p (by omega)
        have hfq := hown.frozenAt p
        rw [HCP.out] at hcq
        have HO := hid hown
        have HB := hid B
        clear hown B
        have hwp : IntKind.i64.wrap (p : Int) = (p : Int) := IntWalk.i64_in _ (by omega)
        have hwp2 : IntKind.i64.wrap ((p : Int) + 1 - 1) = (p : Int) := by rw [show (p : Int) + 1 - 1 = p from by omega]; exact hwp
        have hp0 : (0 : Int) ≤ (p : Int) := by omega
        have hp1 : (p : Int) < (p : Int) + 1 := by omega
        have hk0 : (0 : Int) ≤ (k : Int) := by omega
        have hk9 : (k : Int) < 64 := by omega
        go_still_tail 25, (by kernel_rfl)
        change wpList _ _ _ _ _ wx.drew
        have hne : ¬ q = g := by omega
        have hne2 : ¬ g = q := by omega
        have hhk : (0 : Int) ≤ (h : Int) := by omega
        clear hw1 hw2 hw3 hw4 hw5 hw6 hwp hwp2
        go_wp2
        go_roundw
        case rel =>
          have e8 : (Tj + k) % 8 = (h + k) % 8 := by rw [HH.out]; omega
          have e9 : (Tj + k + 7) / 8 = p + 1 := by have := HP.out; have := HH.out; omega
          refine ⟨j + k, by have := HD.out; omega, by rw [HN2.out]; simp, by have := HD.out; rw [show wd - (j + k) = d - k by omega]; go_num, ?_, ?_⟩
          · rw [HN1.out, ← HTJ.out, ← HXE.out, show T + (j + k) = Tj + k by rw [HTJ.out]; omega]
            refine ⟨.slice (some ⟨q, 0, none⟩) (p + 1) cap, ?_, ?_, HST.out.1⟩
            · rw [e8]
              refine ((((HB.out.far (p := ⟨q, p, none⟩) hne2 _).drew).set 1 _).cast ?_)
              simp
            · rw [e9, ← HST.out.2.2, ← u8s_set _ _ _ (by omega)]
              exact ownsRow_setCell_below ((HO.out.stored p (.int .u8 (z : Int))).1.drew) (Nat.lt_succ_self g) _
          · exact (((X.setCell (p := ⟨q, p, none⟩) (by show g ≤ q; omega) _).drew).setCell (p := ⟨g, 1, none⟩) (Nat.le_refl _) _)
        case measure => simp [intOf]; omega
      · have e1 : (Tj + 7) / 8 = p + 1 := by omega
        rw [e1] at hown
        have hz : ((h : Int) == 0) = false := by rw [beq_eq_false_iff_ne]; omega
        obtain ⟨q, cap, rfl, hq1, hq2⟩ := hown.form (Nat.succ_pos p)
        have hpI : (p : Int) ≤ 1000000 := by omega
        clear hTj hh hd hU hm hkk hkk2 hp e1 ha1
        have HO := hid hown
        have HB := hid B
        have hc0 := B.cell 0
        have hc1 := B.cell 1
        clear B hown
        go_wp2
        refine wp_gen (fun w' => Blk w' g 94 #[.slice (some ⟨q, 0, none⟩) (p + 1) cap, .int .u64 (h : Int)] ∧ w'.ownsRow (g + 1) 5 1 (.slice (some ⟨q, 0, none⟩) (p + 1) cap) (p + 1) (u8s (Bits.leb Uj (p + 1))) ∧ Below g w w') ⟨HB.out, HO.out, X⟩ ?_
        rintro wx ⟨B, hown, X⟩
        have hc0 := B.cell 0
        have hc1 := B.cell 1
        have hf1 := B.frozen 1
        have hcq := hown.cellAt p (by omega)
        have hfq := hown.frozenAt p
        rw [HCP.out] at hcq
        have HO := hid hown
        have HB := hid B
        clear hown B
        have hwp : IntKind.i64.wrap (p : Int) = (p : Int) := IntWalk.i64_in _ (by omega)
        have hwp2 : IntKind.i64.wrap ((p : Int) + 1 - 1) = (p : Int) := by rw [show (p : Int) + 1 - 1 = p from by omega]; exact hwp
        have hp0 : (0 : Int) ≤ (p : Int) := by omega
        have hp1 : (p : Int) < (p : Int) + 1 := by omega
        have hk0 : (0 : Int) ≤ (k : Int) := by omega
        have hk9 : (k : Int) < 64 := by omega
        go_still_tail 25, (by kernel_rfl)
        change wpList _ _ _ _ _ wx.drew
        have hne : ¬ q = g := by omega
        have hne2 : ¬ g = q := by omega
        have hhk : (0 : Int) ≤ (h : Int) := by omega
        clear hw1 hw2 hw3 hw4 hw5 hw6 hwp hwp2
        go_wp2
        go_roundw
        case rel =>
          have e8 : (Tj + k) % 8 = (h + k) % 8 := by rw [HH.out]; omega
          have e9 : (Tj + k + 7) / 8 = p + 1 := by have := HP.out; have := HH.out; omega
          refine ⟨j + k, by have := HD.out; omega, by rw [HN2.out]; simp, by have := HD.out; rw [show wd - (j + k) = d - k by omega]; go_num, ?_, ?_⟩
          · rw [HN1.out, ← HTJ.out, ← HXE.out, show T + (j + k) = Tj + k by rw [HTJ.out]; omega]
            refine ⟨.slice (some ⟨q, 0, none⟩) (p + 1) cap, ?_, ?_, HST.out.1⟩
            · rw [e8]
              refine ((((HB.out.far (p := ⟨q, p, none⟩) hne2 _).drew).set 1 _).cast ?_)
              simp
            · rw [e9, ← HST.out.2.2, ← u8s_set _ _ _ (by omega)]
              exact ownsRow_setCell_below ((HO.out.stored p (.int .u8 (z : Int))).1.drew) (Nat.lt_succ_self g) _
          · exact (((X.setCell (p := ⟨q, p, none⟩) (by show g ≤ q; omega) _).drew).setCell (p := ⟨g, 1, none⟩) (Nat.le_refl _) _)
        case measure => simp [intOf]; omega
    · obtain rfl : j = wd := by omega
      rw [Nat.sub_self]
      have HS := hid hS
      clear hS
      go_wp2
      go_returns
      exact ⟨rfl, HS.out, X⟩
end Go.Proofs.Ytdblegdbfdhepaa
