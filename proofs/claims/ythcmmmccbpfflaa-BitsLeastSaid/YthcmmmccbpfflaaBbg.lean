/- Bits: the closed tests, walked. -/
import Derived.Test.YthcmmmccbpfflaaBrp
import Derived.Test.YthcmmmccbpfflaaBgt
import Derived.Test.YthcmmmccbpfflaaVsn
namespace Hy.Bits
theorem pk_a : pk [5, 1, 6] 3 = ([141, 1], 0) := by decide +kernel
theorem pk_b : pk [8] 3 = ([], 8) := by decide +kernel
theorem up_a : up [141, 1] 3 3 = [5, 1, 6] := by decide +kernel
theorem chk_a : chk [141, 1] 3 3 = 0 := by decide +kernel
theorem chk_b : chk [141, 3] 3 3 = 1 := by decide +kernel
theorem gt_a : gt [141, 1] 3 3 2 = (6, 0) := by decide +kernel
theorem width_a : width [0, 4] = 3 := by decide +kernel
end Hy.Bits
namespace Go.Proofs.Ythcmmmccbpfflaa
open Go.RowKit Hy
theorem pack_of (l : List Nat) (wd : Int) (q : List UInt8) (er n cap : Nat) (A : Option Addr) (w : World) (h : Bits.pk l wd = (q, er)) (hn : l.length = n) (hr : Rd w A (u64s l)) (hl : ∀ x ∈ l, x < 18446744073709551616) (hnl : n ≤ 9223372036854775806) :
    Calls Try.prog 27 #[.slice A n cap, .int .i64 wd] w fun e w' => e = .returned (.tuple #[.string ⟨q.toArray⟩, .int .i64 er]) ∧ Ext w w' := by
  have h1 := pack_any l A n cap wd w hn hr hl hnl
  simp only [h] at h1
  exact h1
theorem get_of (s : List UInt8) (many wd i : Int) (a b : Nat) (h : Bits.gt s many wd i = (a, b)) (w : World) :
    Calls Try.prog 33 #[.string ⟨s.toArray⟩, .int .i64 many, .int .i64 wd, .int .i64 i] w fun e w' => e = .returned (.tuple #[.int .u64 a, .int .i64 b]) ∧ w = w' := by
  have h1 := get_any ⟨s.toArray⟩ many wd i w
  simp only [h] at h1
  exact h1
theorem width_of (l : List Nat) (q n cap : Nat) (A : Option Addr) (w : World) (h : Bits.width l = q) (hn : l.length = n) (hr : Rd w A (u64s l)) (hl : ∀ x ∈ l, x < 18446744073709551616) (hnl : n ≤ 9223372036854775806) :
    Calls Try.prog 30 #[.slice A n cap] w fun e w' => e = .returned (.int .i64 q) ∧ w = w' := by
  rw [← h]; exact width_any l A n cap w hn hr hl hnl
theorem unpack_of (s : List UInt8) (many wd : Int) (l : List Nat) (er : Nat) (h1 : Bits.up s many wd = l) (h2 : Bits.chk s many wd = er) (w : World) :
    Calls Try.prog 32 #[.string ⟨s.toArray⟩, .int .i64 many, .int .i64 wd] w (NumsOut l er w) := by
  have h := unpack_any ⟨s.toArray⟩ many wd w
  simp only [h1, h2] at h
  exact h
set_option maxHeartbeats 1000000 in
theorem bitsBegun_any (w : World) : Calls Try.prog 29 #[] w fun e w' => e = .returned (.bool true) ∧ Ext w w' := by
  have HU := hid (unpack_of [141, 1] 3 3 [5, 1, 6] 0 Bits.up_a Bits.chk_a)
  have HU2 := hid (unpack_of [141, 3] 3 3 [] 1 (Bits.up_bad _ _ _ (by rw [Bits.chk_b]; decide)) Bits.chk_b)
  have hSN : sameNums [5, 1, 6] [5, 1, 6] = true := by decide
  have HSN := hid hSN
  clear hSN
  go_enter Try.func29, Try.ntmps29
  go_wp2_with fail
  refine (pack_of [5, 1, 6] 3 _ _ 3 _ _ _ Bits.pk_a rfl (rd_lit rfl rfl) (by decide) (by decide)).mono ?_
  rintro e w1 ⟨rfl, b1⟩
  go_wp2_with fail
  refine (HU.out _).mono ?_
  rintro e w2 ⟨A, cap, rfl, hrd, b2⟩
  have HRD := hid hrd
  clear hrd
  go_wp2_with fail
  refine (get_of [141, 1] 3 3 2 _ _ Bits.gt_a _).mono ?_
  rintro e w3 ⟨rfl, rfl⟩
  go_wp2_with fail
  refine (HU2.out _).mono ?_
  rintro e w4 ⟨A4, cap4, rfl, hrd4, b4⟩
  clear hrd4
  go_wp2_with fail
  refine (pack_of [8] 3 _ _ 1 _ _ _ Bits.pk_b rfl (rd_lit rfl rfl) (by decide) (by decide)).mono ?_
  rintro e w5 ⟨rfl, b5⟩
  go_wp2_with fail
  have B := (b4.then ((ext_refl w4).new (.cells #[.int .u64 8] 22))).then b5
  refine (sameNums_any [5, 1, 6] [5, 1, 6] _ _ 3 3 _ _ _ rfl rfl (HRD.out.keep (B.new _)) (rd_lit rfl rfl) (by decide)).mono ?_
  rintro e w6 ⟨rfl, b6⟩
  rw [HSN.out]
  go_wp2_with fail
  refine (width_of [0, 4] 3 2 _ _ _ Bits.width_a rfl (rd_lit rfl rfl) (by decide) (by decide)).mono ?_
  rintro e w7 ⟨rfl, rfl⟩
  go_wp2_with fail
  go_returns
  exact ⟨rfl, (((((ext_refl _).new _).then b1).then b2).then ((B.new _).then b6)).new _⟩
end Go.Proofs.Ythcmmmccbpfflaa
