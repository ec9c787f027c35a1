/- Bits: Get: its walk. -/
import Derived.Test.YthcmmmccbpfflaaBup
namespace Hy.Bits
/-- Get: the number, what is wrong -/
@[irreducible] def gt (s : List UInt8) (many w at' : Int) : Nat × Nat :=
  if chk s many w ≠ 0 then (0, chk s many w) else if at' < 0 ∨ many ≤ at' then (0, 3) else (le s / 2 ^ (at'.toNat * w.toNat) % 2 ^ w.toNat, 0)
theorem gt_bad {s : List UInt8} {many w i : Int} (h : chk s many w ≠ 0) : gt s many w i = (0, chk s many w) := by unfold gt; rw [if_pos h]
theorem gt_out {s : List UInt8} {many w i : Int} (h : chk s many w = 0) (h2 : i < 0 ∨ many ≤ i) : gt s many w i = (0, 3) := by unfold gt; rw [if_neg (fun k => k h), if_pos h2]
theorem gt_in {s : List UInt8} {many w i : Int} (h : chk s many w = 0) (h2 : ¬ (i < 0 ∨ many ≤ i)) : gt s many w i = (le s / 2 ^ (i.toNat * w.toNat) % 2 ^ w.toNat, 0) := by unfold gt; rw [if_neg (fun k => k h), if_neg h2]
end Hy.Bits
namespace Go.Proofs.Ythcmmmccbpfflaa
open Go.RowKit Hy
set_option maxHeartbeats 800000 in
theorem get_any (s : ByteArray) (many wd i : Int) (w : World) :
    Calls Try.prog 33 #[.string s, .int .i64 many, .int .i64 wd, .int .i64 i] w fun e w' => e = .returned (.tuple #[.int .u64 (Bits.gt s.data.toList many wd i).1, .int .i64 (Bits.gt s.data.toList many wd i).2]) ∧ w = w' := by
  have C := fun wx : World => hid (check_any s many wd wx)
  obtain ⟨er, he⟩ : ∃ er, er = Bits.chk s.data.toList many wd := ⟨_, rfl⟩
  rw [← he] at C
  by_cases h0 : er = 0
  · subst h0
    by_cases h1 : i < 0
    · rw [Bits.gt_out he.symm (.inl h1)]
      clear he
      go_enter Try.func33, Try.ntmps33
      go_wp2_with (go_at_call 47; refine (C _).out.mono ?_; rintro e w2 ⟨rfl, rfl⟩)
      go_returns
      exact ⟨rfl, rfl⟩
    · by_cases h2 : many ≤ i
      · rw [Bits.gt_out he.symm (.inr h2)]
        clear he
        go_enter Try.func33, Try.ntmps33
        go_wp2_with (go_at_call 47; refine (C _).out.mono ?_; rintro e w2 ⟨rfl, rfl⟩)
        go_returns
        exact ⟨rfl, rfl⟩
      · have hg := Bits.gt_in (i := i) he.symm (by omega)
        obtain ⟨c1, c2, c3, c4, c5, c6⟩ := Bits.chk_ok he.symm
        obtain ⟨m, rfl⟩ := Int.eq_ofNat_of_zero_le c3
        obtain ⟨k, rfl⟩ := Int.eq_ofNat_of_zero_le c1
        obtain ⟨j, rfl⟩ := Int.eq_ofNat_of_zero_le (show 0 ≤ i by omega)
        rw [hg]
        rw [Int.toNat_natCast] at hg
        rw [Int.toNat_natCast, Int.toNat_natCast] at c5 c6
        rw [Array.length_toList] at c5
        have c5' : s.size = Bits.size m k := c5
        have hsz := size_le m k (by omega) (by omega)
        have hb := size_bits m k j (by omega)
        have CP := fun wx : World => hid (pull_any s (j * k) k wx (by omega) (by omega) (by omega))
        have hik : j * k ≤ 64 * 64 := Nat.mul_le_mul (by omega) (by omega)
        have hmul : (j : Int) * (k : Int) = ((j * k : Nat) : Int) := by simp
        simp only [Int.toNat_natCast]
        obtain ⟨x, hx⟩ : ∃ x, x = Bits.le s.data.toList / 2 ^ (j * k) % 2 ^ k := ⟨_, rfl⟩
        rw [← hx]
        rw [← hx] at CP
        generalize j * k = ik at *
        have hikI : (ik : Int) ≤ 4096 := by omega
        clear he hg c5 c6 c5' hsz hb hik hx
        go_enter Try.func33, Try.ntmps33
        go_wp2_with (first
          | (go_at_call 47; refine (C _).out.mono ?_; rintro e w2 ⟨rfl, rfl⟩)
          | (go_at_call 48; refine (CP _).out.mono ?_; rintro e w3 ⟨rfl, rfl⟩))
        go_returns
        exact ⟨rfl, rfl⟩
  · rw [Bits.gt_bad (show Bits.chk s.data.toList many wd ≠ 0 from fun h => h0 (he.trans h)), ← he]
    have h3 : ((er : Int) != 0) = true := by rw [bne_iff_ne]; omega
    have h4 : ((er : Int) == 0) = false := by rw [beq_eq_false_iff_ne]; omega
    clear he h0
    go_enter Try.func33, Try.ntmps33
    go_wp2_with (go_at_call 47; refine (C _).out.mono ?_; rintro e w2 ⟨rfl, rfl⟩)
    go_returns
    exact ⟨rfl, rfl⟩
end Go.Proofs.Ythcmmmccbpfflaa
