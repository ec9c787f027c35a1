/- Vary: walks: behind, Write. -/
import Derived.Test.YtdblegdbfdhepaaRows
import Derived.Test.YtdblegdbfdhepaaVap
import Derived.Test.YtdblegdbfdhepaaRow
import Derived.Test.YtdblegdbfdhepaaShelf
namespace Hy.Vary
open Go
/-- the bytes that are laid so far -/
@[irreducible] def lay (n k i : Nat) : Array Value := ((List.range 9).map fun p => Value.int .u8 ((if k < p + i ∧ p ≤ k then n / 256 ^ (k - p) % 256 else 0 : Nat) : Int)).toArray
theorem lay_zero (n k : Nat) : lay n k 0 = #[.int .u8 0, .int .u8 0, .int .u8 0, .int .u8 0, .int .u8 0, .int .u8 0, .int .u8 0, .int .u8 0, .int .u8 0] := by
  have h : ∀ p, ¬ (k < p + 0 ∧ p ≤ k) := fun p => by omega
  unfold lay; simp only [if_neg (h _)]; rfl
theorem lay_at (n k i p : Nat) (hp : p < 9) : (lay n k i)[p]? = some (.int .u8 ((if k < p + i ∧ p ≤ k then n / 256 ^ (k - p) % 256 else 0 : Nat) : Int)) := by
  unfold lay; simp [hp]
theorem lay_size (n k i : Nat) : (lay n k i).size = 9 := by unfold lay; simp
theorem lay_step (n k i : Nat) (h : i < k) (hk : k ≤ 8) : (lay n k i).setIfInBounds (k - i) (.int .u8 ((n / 256 ^ i % 256 : Nat) : Int)) = lay n k (i + 1) := by
  apply Array.ext_getElem?
  intro p
  rw [Array.getElem?_setIfInBounds]
  by_cases hp : p < 9
  · rw [lay_at _ _ _ _ hp]
    by_cases e : k - i = p
    · subst e
      rw [if_pos rfl, if_pos (by rw [lay_size]; omega), lay_at _ _ _ _ hp, if_pos (by omega), show k - (k - i) = i from by omega]
    · rw [if_neg e, lay_at _ _ _ _ hp]
      congr 3
      by_cases h2 : k < p + i ∧ p ≤ k
      · rw [if_pos h2, if_pos (by omega)]
      · rw [if_neg h2, if_neg (by omega)]
  · rw [if_neg (by omega), Array.getElem?_eq_none (by rw [lay_size]; omega), Array.getElem?_eq_none (by rw [lay_size]; omega)]
theorem lay_be (n k j : Nat) (u : Value) (hk : k ≤ 8) (h : (u8s (be n k))[j]? = some u) : (lay n k k)[1 + j]? = some u := by
  unfold u8s at h
  rw [List.getElem?_map] at h
  by_cases hj : j < k
  · rw [be_get _ _ _ hj] at h
    simp only [Option.map_some, Option.some.injEq] at h
    subst h
    rw [lay_at _ _ _ _ (by omega), if_pos (by omega), UInt8.toNat_ofNat', show k - (1 + j) = k - 1 - j from by omega]
  · rw [List.getElem?_eq_none (by rw [be_len]; omega)] at h; cases h
end Hy.Vary
namespace Go.Proofs.Ytdblegdbfdhepaa
open Go.RowKit Hy
set_option maxHeartbeats 400000 in
theorem behind_any (n : Nat) (w : World) (hn : n < 18446744073709551616) :
    Calls Try.prog 90 #[.int .u64 n] w fun e w' => e = .returned (.int .i64 (Vary.beh n)) ∧ w = w' := by
  have C := hid (Try.bits_Len64 n w (by omega) (by omega))
  have HB : Hid (Vary.beh n = min ((Lib.bitLen (n : Int).toNat - 1) / 7) 8) := by rw [Vary.beh_eq]; exact hid (by simp)
  have hb := Lib.bitLen_le (n : Int).toNat 64 (by omega) (by omega)
  generalize Lib.bitLen (n : Int).toNat = b at *
  go_enter Try.func90, Try.ntmps90
  go_wp2_with (go_at_call 87; refine C.out.mono ?_; rintro e w2 ⟨rfl, rfl⟩)
  go_returns
  refine ⟨ret_int ?_, rfl⟩
  rw [HB.out]
  have e1 : wrap64 ((b : Int) - 1) = (b : Int) - 1 := IntWalk.wrap64_in _ (by omega)
  try rw [e1]
  have e2 : (max 0 ((b : Int) - 1)).tdiv 7 = (max 0 ((b : Int) - 1)) / 7 := Int.tdiv_eq_ediv_of_nonneg (by omega)
  try rw [e2]
  try rw [IntWalk.wrap64_in _ (by omega)]
  omega
set_option maxHeartbeats 400000 in
theorem write_any (n : Nat) (w : World) (hn : n < 18446744073709551616) :
    Calls Try.prog 68 #[.int .u64 n] w fun e w' => e = .returned (.string ⟨(Vary.wr n).toArray⟩) ∧ Ext w w' := by
  have C := fun w => hid (behind_any n w hn)
  have hk := Vary.beh_le8 n
  have HW := hid (Vary.wr_eq n)
  have HT := hid (Vary.top_lt n hn)
  have HFt := hid (Vary.first_lt n hn)
  generalize Vary.beh n = k at *
  go_enter Try.func68, Try.ntmps68
  go_wp2_with (go_at_call 90; refine (C _).out.mono ?_; rintro e w2 ⟨rfl, rfl⟩)
  go_loopw [10, 5] (fun c _ wr => ∃ i : Nat, i ≤ k ∧ c = .int .i64 i ∧ Blk wr w.heap.size 96 (Vary.lay n k i) ∧ Ext w wr) (fun c _ _ => k - (intOf c).toNat)
  case atStart => exact ⟨0, Nat.zero_le _, rfl, by rw [Vary.lay_zero]; exact Blk.new _ _ _, (ext_refl _).new _⟩
  case round =>
    obtain ⟨i, hi, rfl, B, X⟩ := hrel
    have hc := B.cell (k - i)
    rw [Vary.lay_at _ _ _ _ (by omega)] at hc
    have hf := B.frozen (k - i)
    have hc0 := B.cell 0
    rw [Vary.lay_at _ _ _ _ (by omega)] at hc0
    have hf0 := B.frozen 0
    by_cases hlt : i < k
    · clear hc0 hf0
      go_wp2
      go_roundw
      case rel =>
        refine ⟨i + 1, by omega, by go_num, ?_, X.put (Nat.le_refl _) _⟩
        rw [← Vary.lay_step n k i hlt hk]
        refine (B.set (k - i) _).cast ?_
        rw [Vary.shr_cast]
      case measure => simp [intOf]; omega
    · clear hc hf
      obtain rfl : i = k := by omega
      by_cases h8 : i < 8
      · have hsl := fun wx : World => run_arr_h (w := wx) Try.underlying96 (by kernel_rfl) w.heap.size .i64 (i + 1) (by omega)
        simp only [Int.natCast_add, Int.cast_ofNat_Int] at hsl
        have hV := Vary.or_first n i h8 HT.out
        obtain ⟨f, hf⟩ : ∃ f : Nat, f = Vary.lead i + n / 256 ^ i := ⟨_, rfl⟩
        rw [← hf] at hV
        have hs : ∀ cap, (convert 65 9 (.slice (some ⟨w.heap.size, 0, none⟩) (i + 1) cap)).run Try.prog (wr.setCell ⟨w.heap.size, 0, none⟩ (.int .u8 f)) = .ok (.string ⟨(Vary.wr n).toArray⟩) (wr.setCell ⟨w.heap.size, 0, none⟩ (.int .u8 f)) := fun cap => by
          have hb := (B.set 0 (.int .u8 f)).cell
          rw [HW.out, ← hf]
          refine run_str Try.underlying65 Try.underlying5 Try.underlying9 _ 0 (i + 1) cap (UInt8.ofNat f :: Vary.be n i) (by simp [Vary.be_len]) (fun j u hj => ?_)
          rw [Nat.zero_add, hb, Array.getElem?_setIfInBounds]
          cases j with
          | zero =>
            simp only [List.getElem?_cons_zero, Option.some.injEq] at hj
            subst hj
            rw [if_pos rfl, if_pos (by rw [Vary.lay_size]; decide), UInt8.toNat_ofNat']
            congr 2
            have := HFt.out
            rw [← hf] at this
            omega
          | succ j =>
            rw [if_neg (by omega), Nat.add_comm]
            refine Vary.lay_be n i j _ hk ?_
            rw [List.getElem?_cons_succ] at hj
            simp [u8s, hj]
        clear hf
        go_wp2
        go_returns
        exact ⟨rfl, X.put (Nat.le_refl _) _⟩
      · obtain rfl : i = 8 := by omega
        have hw : wr.heap.size ≥ w.heap.size + 1 := B.lt
        have hsrc : Src Try.prog 1 65 (.slice (some ⟨w.heap.size, 1, none⟩) 8 8) 8 (u8s (Vary.be n 8)) (wr.alloc (.cells #[.int .u8 255] 5)) :=
          Src.ofSlice _ Try.underlying65 _ 8 8 _ (by simp [u8s_len, Vary.be_len]) (fun j u hj => by rw [add_none, (B.alloc _).cell]; exact Vary.lay_be n 8 j u (by decide) hj) (u8s_one _)
        have HO := hid (own_new (w := wr) (e := 5) (size := 1) (base := w.heap.size) (n := 1) (C := #[.int .u8 255]) rfl rfl (by omega) (by decide))
        clear hc0 hf0
        go_wp2_with (at_builtin; refine wpList_app rfl (.tmp 28) (.tmp 29) rowU8 rfl _ 1 _ rfl HO.out _ 8 _ rfl hsrc (by decide) (by decide) (by simp; omega) ?_; intro v' w1 hown hgrow hat hbel; have hs := run_str_own Try.underlying65 Try.underlying5 Try.underlying9 (l := 255 :: Vary.be n 8) hown; clear hown hgrow hat)
        go_returns
        refine ⟨?_, ?_⟩
        · rw [HW.out, Nat.div_eq_of_lt (show n < 256 ^ 8 from by omega)]; rfl
        · exact (X.new _).trans hbel
end Go.Proofs.Ytdblegdbfdhepaa
