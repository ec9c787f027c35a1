/- Vary: the closed tests, walked. -/
import Derived.Test.YthcmmmccbpfflaaVea
import Derived.Test.YthcmmmccbpfflaaVls
namespace Hy.Vary
theorem rd_a : rd [129, 0, 122] = (256, 2, 0) := by decide +kernel
theorem rd_b : rd [128, 5] = (0, 0, 1) := by decide +kernel
theorem rd_c : rd [192, 1] = (0, 0, 5) := by decide +kernel
theorem many_d : many [5, 129, 0] = ([5, 256], 0) := by decide +kernel
theorem rl_d : rl [5, 129, 0] = [5, 256] := by decide +kernel
theorem wr_a : wr 256 = [129, 0] := by decide +kernel
theorem wr_b : wr 127 = [127] := by decide +kernel
theorem wr_c : wr 72057594037927936 = [255, 1, 0, 0, 0, 0, 0, 0, 0] := by decide +kernel
theorem wr_d : wr 72057594037927935 = [254, 255, 255, 255, 255, 255, 255, 255] := by decide +kernel
end Hy.Vary
namespace Go.Proofs.Ythcmmmccbpfflaa
open Go.RowKit Hy
theorem read_of (l : List UInt8) (a b c : Nat) (h : Vary.rd l = (a, b, c)) (w : World) : Calls Try.prog 16 #[.string ⟨l.toArray⟩] w fun e w' => e = .returned (.tuple #[.int .u64 a, .int .i64 b, .int .i64 c]) ∧ Ext w w' := by
  have h1 := read_any ⟨l.toArray⟩ w
  simp only [h] at h1
  exact h1
theorem write_of (n : Nat) (l : List UInt8) (h : Vary.wr n = l) (hn : n < 18446744073709551616) (w : World) : Calls Try.prog 19 #[.int .u64 n] w fun e w' => e = .returned (.string ⟨l.toArray⟩) ∧ Ext w w' := by
  rw [← h]; exact write_any n w hn
set_option maxHeartbeats 1000000 in
theorem varyBegun_any (w : World) : Calls Try.prog 18 #[] w fun e w' => e = .returned (.bool true) ∧ Ext w w' := by
  have hRA := hid (readAll_any ⟨[5, 129, 0].toArray⟩)
  have hSN : sameNums [5, 256] [5, 256] = true := by decide
  have HSN := hid hSN
  clear hSN
  go_enter Try.func18, Try.ntmps18
  go_wp2_with fail
  refine (read_of [129, 0, 122] _ _ _ Vary.rd_a _).mono ?_
  rintro e w1 ⟨rfl, b1⟩
  go_wp2_with fail
  refine (read_of [128, 5] _ _ _ Vary.rd_b _).mono ?_
  rintro e w2 ⟨rfl, b2⟩
  go_wp2_with fail
  refine (read_of [192, 1] _ _ _ Vary.rd_c _).mono ?_
  rintro e w3 ⟨rfl, b3⟩
  go_wp2_with fail
  refine (hRA.out _ (by decide) (by show (Vary.many [5, 129, 0]).1.length ≤ _; rw [Vary.many_d]; decide)).mono ?_
  rintro e w4 ⟨A, cap, he, hrd, b4⟩
  rw [show (Vary.rl (⟨[5, 129, 0].toArray⟩ : ByteArray).data.toList) = [5, 256] from Vary.rl_d] at he hrd
  rw [show (Vary.many (⟨[5, 129, 0].toArray⟩ : ByteArray).data.toList).2 = 0 from by show (Vary.many [5, 129, 0]).2 = 0; rw [Vary.many_d]] at he
  subst he
  have HRD := hid hrd
  clear hrd
  go_wp2_with fail
  refine (write_of 256 _ Vary.wr_a (by decide) _).mono ?_
  rintro e w5 ⟨rfl, b5⟩
  go_wp2_with fail
  refine (write_of 127 _ Vary.wr_b (by decide) _).mono ?_
  rintro e w6 ⟨rfl, b6⟩
  go_wp2_with fail
  refine (write_of 72057594037927936 _ Vary.wr_c (by decide) _).mono ?_
  rintro e w7 ⟨rfl, b7⟩
  go_wp2_with fail
  refine (write_of 72057594037927935 _ Vary.wr_d (by decide) _).mono ?_
  rintro e w8 ⟨rfl, b8⟩
  go_wp2_with fail
  have B := ((b5.then b6).then b7).then b8
  refine (sameNums_any [5, 256] [5, 256] _ _ 2 2 _ _ _ rfl rfl (HRD.out.keep (B.new _)) (rd_lit rfl rfl) (by decide)).mono ?_
  rintro e w9 ⟨rfl, b9⟩
  rw [HSN.out]
  go_wp2
  go_returns
  exact ⟨rfl, ((((b1.then b2).then b3).then b4).then (B.new _)).then b9⟩
end Go.Proofs.Ythcmmmccbpfflaa
