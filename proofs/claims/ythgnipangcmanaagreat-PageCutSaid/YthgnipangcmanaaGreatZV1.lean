/- Texts of this claim, put together: walks and plain laws. -/
import Derived.Test.YthgnipangcmanaaGreatZG1
import Derived.Test.YthgnipangcmanaaGreatRows
import Derived.Test.YthgnipangcmanaaGreatShelf
section
namespace Hy.Vary
open Go
@[irreducible] def lay (n k i : Nat) : Array Value := ((List.range 9).map fun p => Value.int .u8 ((if k < p + i ∧ p ≤ k then n / 256 ^ (k - p) % 256 else 0 : Nat) : Int)).toArray
theorem lay_zero (n k : Nat) : lay n k 0 = #[.int .u8 0, .int .u8 0, .int .u8 0, .int .u8 0, .int .u8 0, .int .u8 0, .int .u8 0, .int .u8 0, .int .u8 0] := by
  have h : ∀ p, ¬ (k < p + 0 ∧ p ≤ k) := fun p => by omega
  unfold lay; simp only [if_neg (h _)]; rfl
theorem lay_at (n k i p : Nat) (hp : p < 9) : (lay n k i)[p]? = some (.int .u8 ((if k < p + i ∧ p ≤ k then n / 256 ^ (k - p) % 256 else 0 : Nat) : Int)) := by
  unfold lay; simp [hp]
theorem lay_size (n k i : Nat) : (lay n k i).size = 9 := by unfold lay; simp
theorem lay_step (n k i : Nat) (h : i < k) (hk : k ≤ 8) : (lay n k i).setIfInBounds (k - i) (.int .u8 ((n / 256 ^ i % 256 : Nat) : Int)) = lay n k (i + 1) := by
  apply Array.ext_getElem?
  intro p
  rw [Array.getElem?_setIfInBounds]
  by_cases hp : p < 9
  · rw [lay_at _ _ _ _ hp]
    by_cases e : k - i = p
    · subst e
      rw [if_pos rfl, if_pos (by rw [lay_size]; omega), lay_at _ _ _ _ hp, if_pos (by omega), show k - (k - i) = i from by omega]
    · rw [if_neg e, lay_at _ _ _ _ hp]
      congr 3
      by_cases h2 : k < p + i ∧ p ≤ k
      · rw [if_pos h2, if_pos (by omega)]
      · rw [if_neg h2, if_neg (by omega)]
  · rw [if_neg (by omega), Array.getElem?_eq_none (by rw [lay_size]; omega), Array.getElem?_eq_none (by rw [lay_size]; omega)]
theorem lay_be (n k j : Nat) (u : Value) (hk : k ≤ 8) (h : (u8s (be n k))[j]? = some u) : (lay n k k)[1 + j]? = some u := by
  unfold u8s at h
  rw [List.getElem?_map] at h
  by_cases hj : j < k
  · rw [be_get _ _ _ hj] at h
    simp only [Option.map_some, Option.some.injEq] at h
    subst h
    rw [lay_at _ _ _ _ (by omega), if_pos (by omega), UInt8.toNat_ofNat', show k - (1 + j) = k - 1 - j from by omega]
  · rw [List.getElem?_eq_none (by rw [be_len]; omega)] at h; cases h
end Hy.Vary
namespace Go.Proofs.YthgnipangcmanaaGreat
open Go.RowKit Hy
set_option maxHeartbeats 400000 in
theorem behind_any (n : Nat) (w : World) (hn : n < 18446744073709551616) :
    Calls Tryz.prog 43 #[.int .u64 n] w fun e w' => e = .returned (.int .i64 (Vary.beh n)) ∧ w = w' := by
  have C := hid (Tryz.bits_Len64 n w (by omega) (by omega))
  have HB : Hid (Vary.beh n = min ((Lib.bitLen (n : Int).toNat - 1) / 7) 8) := by rw [Vary.beh_eq]; exact hid (by simp)
  have hb := Lib.bitLen_le (n : Int).toNat 64 (by omega) (by omega)
  generalize Lib.bitLen (n : Int).toNat = b at *
  go_enter Tryz.func43, Tryz.ntmps43
  go_wp2_with (go_at_call 66; refine C.out.mono ?_; rintro e w2 ⟨rfl, rfl⟩)
  go_returns
  refine ⟨ret_int ?_, rfl⟩
  rw [HB.out]
  have e1 : wrap64 ((b : Int) - 1) = (b : Int) - 1 := IntWalk.wrap64_in _ (by omega)
  try rw [e1]
  have e2 : (max 0 ((b : Int) - 1)).tdiv 7 = (max 0 ((b : Int) - 1)) / 7 := Int.tdiv_eq_ediv_of_nonneg (by omega)
  try rw [e2]
  try rw [IntWalk.wrap64_in _ (by omega)]
  omega
set_option maxHeartbeats 400000 in
theorem write_any (n : Nat) (w : World) (hn : n < 18446744073709551616) :
    Calls Tryz.prog 19 #[.int .u64 n] w fun e w' => e = .returned (.string ⟨(Vary.wr n).toArray⟩) ∧ Ext w w' := by
  have C := fun w => hid (behind_any n w hn)
  have hk := Vary.beh_le8 n
  have HW := hid (Vary.wr_eq n)
  have HT := hid (Vary.top_lt n hn)
  have HFt := hid (Vary.first_lt n hn)
  generalize Vary.beh n = k at *
  go_enter Tryz.func19, Tryz.ntmps19
  go_wp2_with (go_at_call 43; refine (C _).out.mono ?_; rintro e w2 ⟨rfl, rfl⟩)
  go_loopw [10, 5] (fun c _ wr => ∃ i : Nat, i ≤ k ∧ c = .int .i64 i ∧ Blk wr w.heap.size 67 (Vary.lay n k i) ∧ Ext w wr) (fun c _ _ => k - (intOf c).toNat)
  case atStart => exact ⟨0, Nat.zero_le _, rfl, by rw [Vary.lay_zero]; exact Blk.new _ _ _, (ext_refl _).new _⟩
  case round =>
    obtain ⟨i, hi, rfl, B, X⟩ := hrel
    have hc := B.cell (k - i)
    rw [Vary.lay_at _ _ _ _ (by omega)] at hc
    have hf := B.frozen (k - i)
    have hc0 := B.cell 0
    rw [Vary.lay_at _ _ _ _ (by omega)] at hc0
    have hf0 := B.frozen 0
    by_cases hlt : i < k
    · clear hc0 hf0
      go_wp2
      go_roundw
      case rel =>
        refine ⟨i + 1, by omega, by go_num, ?_, X.put (Nat.le_refl _) _⟩
        rw [← Vary.lay_step n k i hlt hk]
        refine (B.set (k - i) _).cast ?_
        rw [Vary.shr_cast]
      case measure => simp [intOf]; omega
    · clear hc hf
      obtain rfl : i = k := by omega
      by_cases h8 : i < 8
      · have hsl := fun wx : World => run_arr_h (w := wx) Tryz.underlying67 (by kernel_rfl) w.heap.size .i64 (i + 1) (by omega)
        simp only [Int.natCast_add, Int.cast_ofNat_Int] at hsl
        have hV := Vary.or_first n i h8 HT.out
        obtain ⟨f, hf⟩ : ∃ f : Nat, f = Vary.lead i + n / 256 ^ i := ⟨_, rfl⟩
        rw [← hf] at hV
        have hs : ∀ cap, (convert 42 9 (.slice (some ⟨w.heap.size, 0, none⟩) (i + 1) cap)).run Tryz.prog (wr.setCell ⟨w.heap.size, 0, none⟩ (.int .u8 f)) = .ok (.string ⟨(Vary.wr n).toArray⟩) (wr.setCell ⟨w.heap.size, 0, none⟩ (.int .u8 f)) := fun cap => by
          have hb := (B.set 0 (.int .u8 f)).cell
          rw [HW.out, ← hf]
          refine run_str Tryz.underlying42 Tryz.underlying5 Tryz.underlying9 _ 0 (i + 1) cap (UInt8.ofNat f :: Vary.be n i) (by simp [Vary.be_len]) (fun j u hj => ?_)
          rw [Nat.zero_add, hb, Array.getElem?_setIfInBounds]
          cases j with
          | zero =>
            simp only [List.getElem?_cons_zero, Option.some.injEq] at hj
            subst hj
            rw [if_pos rfl, if_pos (by rw [Vary.lay_size]; decide), UInt8.toNat_ofNat']
            congr 2
            have := HFt.out
            rw [← hf] at this
            omega
          | succ j =>
            rw [if_neg (by omega), Nat.add_comm]
            refine Vary.lay_be n i j _ hk ?_
            rw [List.getElem?_cons_succ] at hj
            simp [u8s, hj]
        clear hf
        go_wp2
        go_returns
        exact ⟨rfl, X.put (Nat.le_refl _) _⟩
      · obtain rfl : i = 8 := by omega
        have hw : wr.heap.size ≥ w.heap.size + 1 := B.lt
        have hsrc : Src Tryz.prog 1 42 (.slice (some ⟨w.heap.size, 1, none⟩) 8 8) 8 (u8s (Vary.be n 8)) (wr.alloc (.cells #[.int .u8 255] 5)) :=
          Src.ofSlice _ Tryz.underlying42 _ 8 8 _ (by simp [u8s_len, Vary.be_len]) (fun j u hj => by rw [add_none, (B.alloc _).cell]; exact Vary.lay_be n 8 j u (by decide) hj) (u8s_one _)
        have HO := hid (own_new (w := wr) (e := 5) (size := 1) (base := w.heap.size) (n := 1) (C := #[.int .u8 255]) rfl rfl (by omega) (by decide))
        clear hc0 hf0
        go_wp2_with (at_builtin; refine wpList_app rfl (.tmp 28) (.tmp 29) rowU8 rfl _ 1 _ rfl HO.out _ 8 _ rfl hsrc (by decide) (by decide) (by simp; omega) ?_; intro v' w1 hown hgrow hat hbel; have hs := run_str_own Tryz.underlying42 Tryz.underlying5 Tryz.underlying9 (l := 255 :: Vary.be n 8) hown; clear hown hgrow hat)
        go_returns
        refine ⟨?_, ?_⟩
        · rw [HW.out, Nat.div_eq_of_lt (show n < 256 ^ 8 from by omega)]; rfl
        · exact (X.new _).trans hbel
end Go.Proofs.YthgnipangcmanaaGreat
end
section
namespace Hy.Vary
theorem rd_k8 (c : UInt8) : (8 - (Go.Lib.bitLen (255 - c.toNat) : Int)) = (ones c.toNat : Int) := by
  have := (Go.Lib.bitLen_le (255 - c.toNat) 8 (by decide) (by have := c.toNat_lt; omega))
  unfold ones; omega
end Hy.Vary
namespace Go.Proofs.YthgnipangcmanaaGreat
open Go.RowKit Hy
set_option maxRecDepth 100000 in
set_option maxHeartbeats 1000000 in
theorem read_any (s : ByteArray) (w : World) :
    Calls Tryz.prog 52 #[.string s] w fun e w' => e = .returned (.tuple #[.int .u64 (Vary.rd s.data.toList).1, .int .i64 (Vary.rd s.data.toList).2.1, .int .i64 (Vary.rd s.data.toList).2.2]) ∧ Ext w w' := by
  cases h0 : s.data.toList with
  | nil =>
    rw [Vary.rd_nil]
    have h1 : s.toList = [] := by rw [ByteArray.toList_eq]; exact h0
    clear h0
    go_enter Tryz.func52, Tryz.ntmps52
    go_wp2
    go_returns
    exact ⟨rfl, ext_refl _⟩
  | cons c t =>
    have hz : s.size = t.length + 1 := by have := congrArg List.length h0; rw [Array.length_toList] at this; exact this
    have h1 : s.toList.isEmpty = false := by rw [ByteArray.toList_eq, h0]; rfl
    have h2 : (s.toList == []) = false := by rw [ByteArray.toList_eq, h0]; rfl
    have hx := fun w : World => run_ix0 (P := Tryz.prog) (w := w) Tryz.underlying9 s .i64 c t h0
    have hxo := xor_u8 c
    obtain ⟨k8, f1, f2, f3⟩ := Vary.ones_fact c
    have hk := Vary.rd_k8 c
    have hcl := c.toNat_lt
    have C35 := fun w : World => hid (Tryz.bits_LeadingZeros8 (255 - (c.toNat : Int)) w (by omega) (by omega))
    rw [show (255 - (c.toNat : Int)).toNat = 255 - c.toNat from by omega, hk] at C35
    have HZ := hid hz
    have H0 := hid h0
    have hsz : (s.size : Int) = (t.length : Int) + 1 := by omega
    have hcI : (c.toNat : Int) ≤ 255 := by omega
    clear hz h0 hk hcl
    by_cases hsh : t.length < Vary.ones c.toNat
    · have HR := hid (Vary.rd_short c t hsh)
      generalize Vary.ones c.toNat = k at *
      have h5 : s.size ≤ k := by rw [HZ.out]; omega
      clear hsz
      go_enter Tryz.func52, Tryz.ntmps52
      go_wp2_with (go_at_call 76; refine (C35 _).out.mono ?_; rintro e w2 ⟨rfl, rfl⟩)
      go_returns
      exact ⟨by rw [HR.out]; rfl, ext_refl _⟩
    · have HR := hid (Vary.rd_cons c t hsh)
      have hnl := Vary.num_lt c t hsh
      have hb8 := Vary.beh_le8 (Vary.unbe (c.toNat - Vary.lead (Vary.ones c.toNat)) (t.take (Vary.ones c.toNat)))
      have hl : (t.take (Vary.ones c.toNat)).length = Vary.ones c.toNat := by rw [List.length_take]; omega
      have hT := fun wx : World => run_fromto (P := Tryz.prog) (w := wx) Tryz.underlying9 s .i64 .i64 1 (Vary.ones c.toNat + 1) (by omega) (by have := HZ.out; omega)
      rw [H0.out] at hT
      simp only [List.drop_succ_cons, List.drop_zero, Nat.add_sub_cancel, Int.natCast_add, Int.cast_ofNat_Int] at hT
      have hand := Vary.ones_and c
      have hpart := fun i => Vary.part_le c t i hsh
      have h80 : Vary.ones c.toNat = 8 → c.toNat - Vary.lead (Vary.ones c.toNat) = 0 := fun e => by
        have h9 := c.toNat_lt
        rw [e]; unfold Vary.lead; omega
      generalize Vary.ones c.toNat = k at *
      have hF : k < 8 → (bits .and .u64 (c.toNat : Int) (127 / 2 ^ k)) = ((c.toNat - Vary.lead k : Nat) : Int) := hand
      have h5 : k < s.size := by have := HZ.out; omega
      have hcv := fun (wx : World) (X : ByteArray) => run_bytes_of_string (P := Tryz.prog) wx 9 42 5 X Tryz.underlying9 Tryz.underlying42 Tryz.underlying5
      obtain ⟨m, hm⟩ : ∃ m, m = c.toNat - Vary.lead k := ⟨_, rfl⟩
      obtain ⟨q, hq⟩ : ∃ q, q = t.take k := ⟨_, rfl⟩
      obtain ⟨S, hS⟩ : ∃ S : ByteArray, S = ⟨q.toArray⟩ := ⟨_, rfl⟩
      rw [← hm] at hF HR hnl hb8 h80
      simp only [← hm] at hpart
      rw [← hq] at HR hT hl hnl hb8
      simp only [← hq] at hpart
      rw [← hS] at hT
      have HM := hid hm
      have HQ := hid hq
      have HS := hid hS
      have HP := hid hpart
      have HL := hid hl
      clear hm hq hS f1 f2 f3 hsh hand hpart hl
      have hqz : S.size = k := by rw [HS.out, str_size, HL.out]
      have hN : Vary.unbe m q ≤ 18446744073709551615 := by omega
      clear hnl
      rcases Nat.lt_or_ge k 8 with h8 | h8
      · have hF8 := hF h8
        clear hF h80
        go_enter Tryz.func52, Tryz.ntmps52
        go_wp2_with (go_at_call 76; refine (C35 _).out.mono ?_; rintro e w2 ⟨rfl, rfl⟩)
        go_loopw [6, 8, 34] (fun a _ c wr => ∃ i : Nat, i ≤ k ∧ c = .int .i64 i ∧ a = .int .u64 (Vary.unbe m (q.take i) : Nat) ∧ Rd wr (some ⟨w2.heap.size, 0, none⟩) (u8s q) ∧ Ext w2 wr) (fun _ _ c _ => k - (intOf c).toNat)
        case atStart => exact ⟨0, Nat.zero_le _, rfl, rfl, by have := (rd_bytes (w := w2) (g := w2.heap.size) (c := grownCap w2 k 0 5) (s := S) (e := 5) (fz := ((bytesRow S (grownCap w2 k 0 5)).size, (bytesRow S (grownCap w2 k 0 5)).size + 1)) rfl).keep (ext_refl _).draw; rw [HS.out] at this ⊢; exact this, (ext_refl _).draw.new _⟩
        case round =>
          obtain ⟨i, hi, rfl, rfl, hrd, X⟩ := hrel
          clear hcv hT
          by_cases hlt : i < k
          · obtain ⟨b, o, e0, hb, hcell⟩ := hrd (by rw [u8s_len, HL.out]; omega)
            simp only [Option.some.injEq, Addr.mk.injEq, and_true] at e0
            obtain ⟨rfl, rfl⟩ := e0
            have hiq : i < q.length := by rw [HL.out]; exact hlt
            have hc := hcell i (.int .u8 (q[i].toNat : Int)) (by simp [u8s, hiq])
            rw [Nat.zero_add] at hc
            have HU := hid (show Vary.unbe m (q.take (i + 1)) = Vary.unbe m (q.take i) * 256 + q[i].toNat by rw [List.take_succ_eq_append_getElem hiq, Vary.unbe_snoc])
            have hx1 : (Vary.unbe m (q.take i) : Int) ≤ 72057594037927935 := by have := HP.out i hlt; omega
            have hO := or_byte (Vary.unbe m (q.take i)) q[i].toNat (by omega) q[i].toNat_lt
            have hb1 : (q[i].toNat : Int) ≤ 255 := by have := q[i].toNat_lt; omega
            have HR2 := hid hrd
            clear hrd hcell
            generalize q[i].toNat = y at *
            generalize Vary.unbe m (q.take i) = x at *
            clear hiq
            go_wp2
            go_roundw
            case rel => exact ⟨i + 1, by omega, by go_num, by rw [HU.out]; go_num, HR2.out, X⟩
            case measure => simp [intOf]; omega
          · obtain rfl : i = k := by omega
            have HC := fun wx : World => hid (behind_any (Vary.unbe m q) wx (by omega))
            have e1 : q.take i = q := List.take_of_length_le (by rw [HL.out]; exact Nat.le_refl _)
            rw [e1]
            clear e1 hrd
            by_cases hbk : Vary.beh (Vary.unbe m q) = i
            · rw [hbk] at HC
              have HR3 := HR.out
              rw [if_pos hbk] at HR3
              have HR4 := hid HR3
              clear HR3 hbk
              generalize Vary.unbe m q = N at *
              go_wp2_with (go_at_call 43; refine (HC _).out.mono ?_; rintro e w5 ⟨rfl, rfl⟩)
              go_returns
              exact ⟨by rw [HR4.out]; rfl, X⟩
            · have HR3 := HR.out
              rw [if_neg hbk] at HR3
              have HR4 := hid HR3
              have h3 : ((Vary.beh (Vary.unbe m q) : Int) != (i : Int)) = true := by rw [bne_iff_ne]; omega
              have h4 : ((Vary.beh (Vary.unbe m q) : Int) == (i : Int)) = false := by rw [beq_eq_false_iff_ne]; omega
              clear HR3 hbk
              generalize Vary.beh (Vary.unbe m q) = bb at *
              generalize Vary.unbe m q = N at *
              go_wp2_with (go_at_call 43; refine (HC _).out.mono ?_; rintro e w5 ⟨rfl, rfl⟩)
              go_returns
              exact ⟨by rw [HR4.out]; rfl, X⟩
      · obtain rfl := h80 (by omega)
        have h8' : (8 : Int) ≤ (k : Int) := by omega
        clear hF h80 h8
        go_enter Tryz.func52, Tryz.ntmps52
        go_wp2_with (go_at_call 76; refine (C35 _).out.mono ?_; rintro e w2 ⟨rfl, rfl⟩)
        go_loopw [6, 8, 34] (fun a _ c wr => ∃ i : Nat, i ≤ k ∧ c = .int .i64 i ∧ a = .int .u64 (Vary.unbe 0 (q.take i) : Nat) ∧ Rd wr (some ⟨w2.heap.size, 0, none⟩) (u8s q) ∧ Ext w2 wr) (fun _ _ c _ => k - (intOf c).toNat)
        case atStart => exact ⟨0, Nat.zero_le _, rfl, rfl, by have := (rd_bytes (w := w2) (g := w2.heap.size) (c := grownCap w2 k 0 5) (s := S) (e := 5) (fz := ((bytesRow S (grownCap w2 k 0 5)).size, (bytesRow S (grownCap w2 k 0 5)).size + 1)) rfl).keep (ext_refl _).draw; rw [HS.out] at this ⊢; exact this, (ext_refl _).draw.new _⟩
        case round =>
          obtain ⟨i, hi, rfl, rfl, hrd, X⟩ := hrel
          clear hcv hT
          by_cases hlt : i < k
          · obtain ⟨b, o, e0, hb, hcell⟩ := hrd (by rw [u8s_len, HL.out]; omega)
            simp only [Option.some.injEq, Addr.mk.injEq, and_true] at e0
            obtain ⟨rfl, rfl⟩ := e0
            have hiq : i < q.length := by rw [HL.out]; exact hlt
            have hc := hcell i (.int .u8 (q[i].toNat : Int)) (by simp [u8s, hiq])
            rw [Nat.zero_add] at hc
            have HU := hid (show Vary.unbe 0 (q.take (i + 1)) = Vary.unbe 0 (q.take i) * 256 + q[i].toNat by rw [List.take_succ_eq_append_getElem hiq, Vary.unbe_snoc])
            have hx1 : (Vary.unbe 0 (q.take i) : Int) ≤ 72057594037927935 := by have := HP.out i hlt; omega
            have hO := or_byte (Vary.unbe 0 (q.take i)) q[i].toNat (by omega) q[i].toNat_lt
            have hb1 : (q[i].toNat : Int) ≤ 255 := by have := q[i].toNat_lt; omega
            have HR2 := hid hrd
            clear hrd hcell
            generalize q[i].toNat = y at *
            generalize Vary.unbe 0 (q.take i) = x at *
            clear hiq
            go_wp2
            go_roundw
            case rel => exact ⟨i + 1, by omega, by go_num, by rw [HU.out]; go_num, HR2.out, X⟩
            case measure => simp [intOf]; omega
          · obtain rfl : i = k := by omega
            have HC := fun wx : World => hid (behind_any (Vary.unbe 0 q) wx (by omega))
            have e1 : q.take i = q := List.take_of_length_le (by rw [HL.out]; exact Nat.le_refl _)
            rw [e1]
            clear e1 hrd
            by_cases hbk : Vary.beh (Vary.unbe 0 q) = i
            · rw [hbk] at HC
              have HR3 := HR.out
              rw [if_pos hbk] at HR3
              have HR4 := hid HR3
              clear HR3 hbk
              generalize Vary.unbe 0 q = N at *
              go_wp2_with (go_at_call 43; refine (HC _).out.mono ?_; rintro e w5 ⟨rfl, rfl⟩)
              go_returns
              exact ⟨by rw [HR4.out]; rfl, X⟩
            · have HR3 := HR.out
              rw [if_neg hbk] at HR3
              have HR4 := hid HR3
              have h3 : ((Vary.beh (Vary.unbe 0 q) : Int) != (i : Int)) = true := by rw [bne_iff_ne]; omega
              have h4 : ((Vary.beh (Vary.unbe 0 q) : Int) == (i : Int)) = false := by rw [beq_eq_false_iff_ne]; omega
              clear HR3 hbk
              generalize Vary.beh (Vary.unbe 0 q) = bb at *
              generalize Vary.unbe 0 q = N at *
              go_wp2_with (go_at_call 43; refine (HC _).out.mono ?_; rintro e w5 ⟨rfl, rfl⟩)
              go_returns
              exact ⟨by rw [HR4.out]; rfl, X⟩
end Go.Proofs.YthgnipangcmanaaGreat
end
section
namespace Go.Proofs.YthgnipangcmanaaGreat
open Go.RowKit Hy
theorem oneByte_any (n : Int) (w : World) (h0 : 0 ≤ n) (hn : n < 256) :
    Calls Tryz.prog 32 #[.int .i64 n] w fun e w' => e = .returned (.string ⟨#[UInt8.ofNat n.toNat]⟩) ∧ Ext w w' := by
  obtain ⟨m, rfl⟩ := Int.eq_ofNat_of_zero_le h0
  have hs := run_str1 (P := Tryz.prog) Tryz.underlying42 Tryz.underlying5 Tryz.underlying9 m (by omega) w
  go_enter Tryz.func32, Tryz.ntmps32
  go_wp2
  go_returns
  exact ⟨rfl, (ext_refl _).new _⟩
end Go.Proofs.YthgnipangcmanaaGreat
end
section
namespace Go.Proofs.YthgnipangcmanaaGreat
open Go.RowKit Hy
theorem bigBytes_any (n : Nat) (kk : Int) (w : World) (hn : n < 18446744073709551616) (h0 : 0 ≤ kk) (hk : kk ≤ 8) :
    Calls Tryz.prog 31 #[.int .u64 n, .int .i64 kk] w fun e w' => e = .returned (.string ⟨(Vary.be n kk.toNat).toArray⟩) ∧ Ext w w' := by
  obtain ⟨k, rfl⟩ := Int.eq_ofNat_of_zero_le h0
  rw [Int.toNat_natCast]
  go_enter Tryz.func31, Tryz.ntmps31
  go_wp2
  go_loopw [0, 5, 6] (fun a s c wr => ∃ i : Nat, i ≤ k ∧ c = .int .i64 i ∧ a = .int .u64 (n / 256 ^ i : Nat) ∧ s = .string ⟨(Vary.be n i).toArray⟩ ∧ Ext w wr) (fun _ _ c _ => k - (intOf c).toNat)
  case atStart => exact ⟨0, Nat.zero_le _, rfl, by simp, rfl, ext_refl _⟩
  case round =>
    obtain ⟨i, hi, rfl, rfl, rfl, X⟩ := hrel
    have HB := hid (Vary.be_cons n i)
    have HD := hid (show n / 256 ^ (i + 1) = n / 256 ^ i / 256 by rw [Nat.div_div_eq_div_mul, Nat.pow_succ])
    have hm : n / 256 ^ i < 18446744073709551616 := Nat.lt_of_le_of_lt (Nat.div_le_self _ _) hn
    generalize n / 256 ^ i = m at *
    obtain ⟨s, hs⟩ : ∃ s : ByteArray, s = ⟨(Vary.be n i).toArray⟩ := ⟨_, rfl⟩
    have hz : s.size ≤ 8 := by rw [hs]; simp [ByteArray.size, Vary.be_len]; omega
    rw [← hs]
    have HS := hid hs
    clear hs
    by_cases hlt : i < k
    · go_wp2_with (go_at_call 32; refine (oneByte_any _ _ (by omega) (by omega)).mono ?_; rintro e w2 ⟨rfl, b2⟩)
      go_roundw
      case rel =>
        refine ⟨i + 1, by omega, by go_num, by rw [HD.out]; go_num, ?_, X.then b2⟩
        rw [HB.out, HS.out, str_cons]
        first | rw [ofNat_mod] | (rw [show ((m : Int) % 256).toNat = m % 256 from by omega, ofNat_mod])
      case measure => simp [intOf]; omega
    · obtain rfl : i = k := by omega
      go_wp2
      go_returns
      exact ⟨by rw [HS.out]; rfl, X⟩
set_option maxHeartbeats 800000 in
theorem varyBytes_any (n : Nat) (w : World) (hn : n < 18446744073709551616) :
    Calls Tryz.prog 15 #[.int .u64 n] w fun e w' => e = .returned (.string ⟨(Vary.wr n).toArray⟩) ∧ Ext w w' := by
  go_enter Tryz.func15, Tryz.ntmps15
  go_wp2
  go_loop [3, 4, 5, 6] (fun a b c _ => ∃ i : Nat, i ≤ 8 ∧ c = .int .i64 (i + 1 : Nat) ∧ a = .int .u64 (128 ^ (i + 1) : Nat) ∧ b = .int .i64 (Vary.lead i) ∧ (i = 0 ∨ 128 ^ i ≤ n)) (fun _ _ c _ => 9 - (intOf c).toNat)
  case atStart => exact ⟨0, Nat.zero_le _, rfl, rfl, rfl, .inl rfl⟩
  case round =>
    obtain ⟨i, hi, rfl, rfl, rfl, hlo⟩ := hrel
    have HLo := hid hlo
    clear hlo
    have hF := Vary.lead_lt i
    have HN := hid (fun h => Vary.lead_next ⟨i, h⟩)
    by_cases h8 : i < 8
    · have HL := hid (show (128 : Nat) ^ (i + 1 + 1) = 128 ^ (i + 1) * 128 from Nat.pow_succ ..)
      have hL : (128 : Nat) ^ (i + 1) ≤ 72057594037927936 := Nat.le_trans (Nat.pow_le_pow_right (by decide) (show i + 1 ≤ 8 by omega)) (by decide)
      have HB := hid (fun h => Vary.beh_of n i hn h8 HLo.out h)
      have HF := hid (Vary.first_lt n hn)
      have HW := hid (Vary.wr_eq n)
      have HC := hid (Vary.be_cons n i)
      generalize hLg : (128 : Nat) ^ (i + 1) = L at *
      have HLg := hid hLg
      clear hLg
      by_cases hlt : n < L
      · have e := HB.out hlt
        have f1 := HF.out
        rw [e] at f1
        have hS : ∀ w : World, (Instr.index 9 (.string ⟨(Vary.be n (i + 1)).toArray⟩) (.int .i64 0)).run Tryz.prog w = .ok (.int .u8 ((n / 256 ^ i % 256 : Nat) : Int)) w := fun w => by
          have := run_ix (P := Tryz.prog) (w := w) Tryz.underlying9 ⟨(Vary.be n (i + 1)).toArray⟩ .i64 0 (UInt8.ofNat (n / 256 ^ i)) (by rw [HC.out]; rfl)
          rw [UInt8.toNat_ofNat'] at this
          exact this
        have hT : ∀ w : World, (Instr.slice 9 (.string ⟨(Vary.be n (i + 1)).toArray⟩) (some (.int .i64 1)) none none).run Tryz.prog w = .ok (.string ⟨(Vary.be n i).toArray⟩) w := fun w => by
          have := run_from (P := Tryz.prog) (w := w) Tryz.underlying9 ⟨(Vary.be n (i + 1)).toArray⟩ .i64 1 (by rw [str_size, Vary.be_len]; omega)
          rw [HC.out] at this
          rw [HC.out]
          exact this
        have hz : (⟨(Vary.be n i).toArray⟩ : ByteArray).size ≤ 8 := by rw [str_size, Vary.be_len]; exact hi
        have hW : Vary.wr n = UInt8.ofNat (Vary.lead i + n / 256 ^ i) :: Vary.be n i := by rw [HW.out, e]
        have HW2 := hid hW
        clear hW
        have hm : (n / 256 ^ i % 256 : Nat) = n / 256 ^ i := Nat.mod_eq_of_lt (by omega)
        rw [hm] at hS
        generalize n / 256 ^ i = m at *
        have f2 : (Vary.lead i : Int) + (m : Int) ≤ 255 := by omega
        clear f1 hm e
        have G39 : Gives Tryz.prog 32 #[.int .i64 ((m : Int) + (Vary.lead i : Int))] (.string ⟨#[UInt8.ofNat (Vary.lead i + m)]⟩) := fun w => by
          have := oneByte_any ((m : Int) + (Vary.lead i : Int)) w (by omega) (by omega)
          rw [show ((m : Int) + (Vary.lead i : Int)).toNat = Vary.lead i + m from by omega] at this
          exact this
        obtain ⟨O, hOO⟩ : ∃ O : ByteArray, O = ⟨#[UInt8.ofNat (Vary.lead i + m)]⟩ := ⟨_, rfl⟩
        have hz1 : O.size ≤ 1 := by rw [hOO]; exact Nat.le_refl _
        rw [← hOO] at G39
        have HOO := hid hOO
        clear hOO
        generalize Vary.lead i = F at *
        obtain ⟨S, hSS⟩ : ∃ S : ByteArray, S = ⟨(Vary.be n (i + 1)).toArray⟩ := ⟨_, rfl⟩
        obtain ⟨T, hTT⟩ : ∃ T : ByteArray, T = ⟨(Vary.be n i).toArray⟩ := ⟨_, rfl⟩
        rw [← hSS] at hS hT
        rw [← hTT] at hT hz
        have HSS := hid hSS
        have HTT := hid hTT
        clear hSS hTT HC
        go_wp2_with (go_at_call 31; refine (bigBytes_any _ _ _ hn (by omega) (by omega)).mono ?_; rintro e w2 ⟨rfl, b2⟩; rw [show ((i : Int) + 1).toNat = i + 1 from by omega, ← HSS.out])
        refine wp_region_quiet_below (by kernel_rfl) (by kernel_rfl) ?_
        repeat (go_big_quiet_step ((go_at_call 32; exact G39.quiet _ _ _)))
        refine wpQuiet_nil ?_
        intro w9 hw9
        obtain ⟨p, rfl⟩ := hw9
        go_wp2
        go_returns
        exact ⟨by rw [HW2.out, ← str_cons, ← HTT.out, ← HOO.out]; rfl, b2.then (ext_regrown _ p)⟩
      · go_wp2
        go_round
        case rel => exact ⟨i + 1, by omega, by go_num, by rw [HL.out]; go_num, by rw [(HN.out h8)]; go_num, .inr (by rw [HLg.out]; omega)⟩
        case measure => simp [intOf]; omega
    · obtain rfl : i = 8 := by omega
      have h56 : 128 ^ 8 ≤ n := by rcases HLo.out with h | h; (· cases h); exact h
      have e := Vary.beh_of8 n hn h56
      have hW : Vary.wr n = 255 :: Vary.be n 8 := by rw [Vary.wr_eq, e, Nat.div_eq_of_lt (show n < 256 ^ 8 from hn)]; rfl
      have HW := hid hW
      clear hW e h56 HN hF h8
      go_wp2_with (first
        | (go_at_call 32; refine (oneByte_any _ _ (by omega) (by omega)).mono ?_; rintro e w2 ⟨rfl, b2⟩)
        | (go_at_call 31; refine (bigBytes_any _ _ _ hn (by omega) (by omega)).mono ?_; rintro e w3 ⟨rfl, b3⟩))
      go_returns
      exact ⟨by rw [HW.out, ← str_cons]; rfl, b2.then b3⟩
end Go.Proofs.YthgnipangcmanaaGreat
end
section
namespace Hy.Vary
def rest (c i : Nat) : Nat := (c - lead i) * 2 ^ i
end Hy.Vary
end
