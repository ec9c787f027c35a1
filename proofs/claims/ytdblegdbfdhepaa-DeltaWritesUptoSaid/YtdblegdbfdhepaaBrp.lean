/- Bits: Raw, Pack: walks. -/
import Derived.Test.YtdblegdbfdhepaaBsk
namespace Go.Proofs.Ytdblegdbfdhepaa
open Go.RowKit Hy
set_option maxHeartbeats 400000 in
theorem raw_any (l : List Nat) (A : Option Addr) (n cap wd : Nat) (w : World) (hn : l.length = n) (hr : Rd w A (u64s l)) (hl : ∀ x ∈ l, x < 2 ^ wd) (hnl : n ≤ 64) (hwd : wd ≤ 64) :
    Calls Try.prog 62 #[.slice A n cap, .int .i64 wd] w fun e w' => e = .returned (.string ⟨(Bits.packed l wd).toArray⟩) ∧ Ext w w' := by
  have HN := hid hn
  have HA := hid hr
  have HB := hid hl
  have HW := hid (Bits.packed_eq l wd)
  have hnI : (n : Int) ≤ 64 := by omega
  have h64 : 2 ^ wd ≤ 2 ^ 64 := Nat.pow_le_pow_right (by decide) hwd
  have H64 := hid h64
  have HWD := hid hwd
  clear hr hl hn hnl h64 hwd
  go_enter Try.func62, Try.ntmps62
  go_wp2
  go_loopw [7, 10] (fun _ c wr => ∃ k : Nat, k ≤ n ∧ c = .int .i64 k ∧ Sink w.heap.size 94 5 (Bits.num wd (l.take k)) (k * wd) wr ∧ Ext w wr) (fun _ c _ => n - (intOf c).toNat)
  case atStart => exact ⟨0, Nat.zero_le _, rfl, ⟨.slice none 0 0, by rw [Nat.zero_mul]; exact Blk.new _ _ _, by rw [Nat.zero_mul]; exact World.ownsRow_nil _ _ _ _, by rw [Nat.zero_mul]; exact Nat.one_pos⟩, (ext_refl _).new _⟩
  case round =>
    obtain ⟨k, hk, rfl, hS, X⟩ := hrel
    have HS := hid hS
    clear hS
    by_cases hlt : k < n
    · have hka : k < l.length := by rw [HN.out]; exact hlt
      obtain ⟨b1, o1, e1, l1, c1⟩ := HA.out.nums k hka
      subst e1
      have d1 := (X.cell (p := ⟨b1, o1 + k, none⟩) l1).trans (c1 k hka)
      have HQ := hid (show Bits.num wd (l.take (k + 1)) = Bits.num wd (l.take k) + l[k] % 2 ^ wd * 2 ^ (k * wd) by
        rw [List.take_succ_eq_append_getElem hka, Bits.num_snoc, List.length_take, Nat.min_eq_left (Nat.le_of_lt hka), Nat.mod_eq_of_lt (HB.out _ (List.getElem_mem hka))])
      have hT : k * wd ≤ 64 * 64 := Nat.mul_le_mul (by omega) HWD.out
      have hx := Nat.lt_of_lt_of_le (HB.out l[k] (List.getElem_mem hka)) H64.out
      have C := hid (fun wx (h : Sink w.heap.size 94 5 (Bits.num wd (l.take k)) (k * wd) wx) => put_any w.heap.size _ _ l[k] wd wx h (by omega) HWD.out hx)
      have HM := hid (Nat.succ_mul k wd)
      clear c1 hx hT
      generalize l[k] = x at *
      clear hka
      go_wp2_with (go_at_call 88; refine (C.out _ HS.out).mono ?_; rintro e w2 ⟨rfl, hS2, b2⟩; have HS2 := hid hS2; clear hS2)
      go_roundw
      case rel => exact ⟨k + 1, by omega, by go_num, by rw [HQ.out, HM.out]; exact HS2.out, X.trans b2⟩
      case measure => simp [intOf]; omega
    · obtain rfl : k = n := by omega
      obtain ⟨v, B, hown, _⟩ := HS.out
      have e1 : l.take k = l := List.take_of_length_le (by rw [HN.out]; exact Nat.le_refl _)
      rw [e1] at hown
      have e2 : Bits.leb (Bits.num wd l) ((k * wd + 7) / 8) = Bits.packed l wd := by rw [HW.out, HN.out]; rfl
      rw [e2] at hown
      have hs := run_str_own (w := wr) Try.underlying65 Try.underlying5 Try.underlying9 hown
      have hc0 := B.cell 0
      clear hown B e1 e2
      obtain ⟨q, hq⟩ : ∃ q, q = (Bits.packed l wd).toArray := ⟨_, rfl⟩
      rw [← hq] at hs
      have HQ := hid hq
      clear hq
      go_wp2
      go_returns
      exact ⟨by rw [← HQ.out]; rfl, X⟩
set_option maxHeartbeats 400000 in
theorem pack_any (l : List Nat) (A : Option Addr) (n cap : Nat) (wd : Int) (w : World) (hn : l.length = n) (hr : Rd w A (u64s l)) (hl : ∀ x ∈ l, x < 18446744073709551616) (hnl : n ≤ 9223372036854775806) :
    Calls Try.prog 28 #[.slice A n cap, .int .i64 wd] w fun e w' => e = .returned (.tuple #[.string ⟨(Bits.pk l wd).1.toArray⟩, .int .i64 (Bits.pk l wd).2]) ∧ Ext w w' := by
  have C42 := fun wx : World => hid (wide_any wd wx)
  have C30 := fun wx : World => fun hx : Ext w wx => hid (width_any l A n cap wx hn (hr.keep hx) hl hnl)
  have hw64 := Bits.width_le64 l hl
  have hiff := Bits.width_le_iff l
  have C43 := hid (fun (k : Nat) (wx : World) (hx : Ext w wx) => raw_any l A n cap k wx hn (hr.keep hx))
  by_cases h1 : 0 ≤ wd ∧ wd ≤ 64
  · rw [decide_eq_true h1] at C42
    by_cases h2 : 64 < n
    · have HP := hid (show Bits.pk l wd = ([], 2) by unfold Bits.pk; rw [if_neg (fun h => h h1), if_pos (by omega)])
      have h2I : (64 : Int) < (n : Int) := by omega
      clear hr hl hn h2 hiff hw64 h1
      go_enter Try.func28, Try.ntmps28
      go_wp2_with (go_at_call 60; refine (C42 _).out.mono ?_; rintro e w2 ⟨rfl, rfl⟩)
      go_returns
      exact ⟨by rw [HP.out]; rfl, ext_refl _⟩
    · have h2I : ¬ (64 : Int) < (n : Int) := by omega
      obtain ⟨k, rfl⟩ := Int.eq_ofNat_of_zero_le h1.1
      by_cases h3 : (k : Int) < (Bits.width l : Int)
      · have HP := hid (show Bits.pk l (k : Int) = ([], 8) by unfold Bits.pk; rw [if_neg (fun h => h h1), if_neg (by omega), if_pos h3])
        obtain ⟨q, hq⟩ : ∃ q, q = Bits.width l := ⟨_, rfl⟩
        rw [← hq] at h3 C30
        clear hr hl hn h2 hiff hw64 hq h1
        go_enter Try.func28, Try.ntmps28
        go_wp2_with (first
          | (go_at_call 60; refine (C42 _).out.mono ?_; rintro e w2 ⟨rfl, rfl⟩)
          | (go_at_call 61; refine (C30 _ (ext_refl _)).out.mono ?_; rintro e w3 ⟨rfl, rfl⟩))
        go_returns
        exact ⟨by rw [HP.out]; rfl, ext_refl _⟩
      · have HP := hid (show Bits.pk l (k : Int) = (Bits.packed l k, 0) by unfold Bits.pk; rw [if_neg (fun h => h h1), if_neg (by omega), if_neg h3, Int.toNat_natCast])
        have CR := hid (C43.out k w (ext_refl _) ((hiff k hl (by omega)).1 (by omega)) (by omega) (by omega))
        obtain ⟨q, hq⟩ : ∃ q, q = Bits.width l := ⟨_, rfl⟩
        rw [← hq] at h3 C30
        clear hr hl hn h2 hiff hw64 hq h1 C43
        obtain ⟨S, hS⟩ : ∃ S : ByteArray, S = ⟨(Bits.packed l k).toArray⟩ := ⟨_, rfl⟩
        rw [← hS] at CR
        have HS := hid hS
        clear hS
        go_enter Try.func28, Try.ntmps28
        go_wp2_with (first
          | (go_at_call 60; refine (C42 _).out.mono ?_; rintro e w2 ⟨rfl, rfl⟩)
          | (go_at_call 61; refine (C30 _ (ext_refl _)).out.mono ?_; rintro e w3 ⟨rfl, rfl⟩)
          | (go_at_call 62; refine CR.out.mono ?_; rintro e w4 ⟨rfl, b4⟩))
        go_returns
        exact ⟨by rw [HP.out, HS.out]; rfl, b4⟩
  · rw [decide_eq_false h1] at C42
    have HP := hid (show Bits.pk l wd = ([], 3) by unfold Bits.pk; rw [if_pos h1])
    clear hr hl hn hiff hw64 h1 C43
    go_enter Try.func28, Try.ntmps28
    go_wp2_with (go_at_call 60; refine (C42 _).out.mono ?_; rintro e w2 ⟨rfl, rfl⟩)
    go_returns
    exact ⟨by rw [HP.out]; rfl, ext_refl _⟩
end Go.Proofs.Ytdblegdbfdhepaa
