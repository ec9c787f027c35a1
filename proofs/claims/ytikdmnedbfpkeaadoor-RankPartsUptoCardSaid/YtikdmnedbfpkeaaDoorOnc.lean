/- OnesCount64: the walk. -/
import Derived.Test.YtikdmnedbfpkeaaDoorPop
import Derived.Test.YtikdmnedbfpkeaaDoorProg
namespace Hy
open Go Go.RowKit
theorem natU64_and (a b : Nat) (ha : a < 18446744073709551616) (hb : b < 18446744073709551616) : bits .and .u64 (a : Int) (b : Int) = ((a &&& b : Nat) : Int) := by
  have hx : a &&& b < 18446744073709551616 := Nat.lt_of_le_of_lt Nat.and_le_left ha
  show IntKind.u64.wrap ((BitVec.ofInt 64 (a : Int) &&& BitVec.ofInt 64 (b : Int)).toNat : Int) = _
  rw [BitVec.toNat_and, BitVec.ofInt_natCast, BitVec.ofInt_natCast, BitVec.toNat_ofNat, BitVec.toNat_ofNat, Nat.mod_eq_of_lt (a := a) (by simpa using ha), Nat.mod_eq_of_lt (a := b) (by simpa using hb), IntKind.wrap_u64]
  omega
theorem natI64_and (a b : Nat) (ha : a < 9223372036854775808) (hb : b < 9223372036854775808) : bits .and .i64 (a : Int) (b : Int) = ((a &&& b : Nat) : Int) := by
  have hx : a &&& b < 9223372036854775808 := Nat.lt_of_le_of_lt Nat.and_le_left ha
  show IntKind.i64.wrap ((BitVec.ofInt 64 (a : Int) &&& BitVec.ofInt 64 (b : Int)).toNat : Int) = _
  rw [BitVec.toNat_and, ofInt_i64 a ha, ofInt_i64 b hb, IntKind.wrap_i64]
  omega
theorem natU64_wrap (a : Nat) (ha : a < 18446744073709551616) : IntKind.u64.wrap (a : Int) = (a : Int) := by rw [IntKind.wrap_u64]; omega
end Hy
namespace Go.Proofs.YtikdmnedbfpkeaaDoor
open Go.RowKit Hy
theorem onesCount_any (x : Nat) (hx : x < 18446744073709551616) (w : World) : Calls Tryd.prog 29 #[.int .u64 (x : Int)] w fun e w' => e = .returned (.int .i64 (Pop.o64 x : Nat)) ∧ w = w' := by
  rw [Pop.o64_eq]
  have HR := hid (Pop.ones_pb x)
  unfold Pop.ones Pop.s3 Pop.s2 Pop.s1 at HR
  rw [Pop.rep85, Pop.rep51, Pop.rep15] at HR
  have a1 : bits .and .u64 ((x : Int) / 2) 6148914691236517205 = (((x / 2) &&& 6148914691236517205 : Nat) : Int) := by have := natU64_and (x / 2) 6148914691236517205 (by omega) (by omega); rw [← this]; rfl
  have a2 : bits .and .u64 (x : Int) 6148914691236517205 = ((x &&& 6148914691236517205 : Nat) : Int) := natU64_and x 6148914691236517205 hx (by omega)
  have l1 : (x / 2) &&& 6148914691236517205 ≤ 6148914691236517205 := Nat.and_le_right
  have l2 : x &&& 6148914691236517205 ≤ 6148914691236517205 := Nat.and_le_right
  generalize (x / 2) &&& 6148914691236517205 = A1 at *
  generalize x &&& 6148914691236517205 = A2 at *
  have a3 : IntKind.u64.wrap ((A1 : Int) + (A2 : Int)) = ((A1 + A2 : Nat) : Int) := by rw [← natU64_wrap (A1 + A2) (by omega)]; rfl
  have l3 : A1 + A2 < 18446744073709551616 := by omega
  generalize A1 + A2 = Y1 at *
  have b1 : bits .and .u64 ((Y1 : Int) / 4) 3689348814741910323 = (((Y1 / 4) &&& 3689348814741910323 : Nat) : Int) := by have := natU64_and (Y1 / 4) 3689348814741910323 (by omega) (by omega); rw [← this]; rfl
  have b2 : bits .and .u64 (Y1 : Int) 3689348814741910323 = ((Y1 &&& 3689348814741910323 : Nat) : Int) := natU64_and Y1 3689348814741910323 l3 (by omega)
  have m1 : (Y1 / 4) &&& 3689348814741910323 ≤ 3689348814741910323 := Nat.and_le_right
  have m2 : Y1 &&& 3689348814741910323 ≤ 3689348814741910323 := Nat.and_le_right
  generalize (Y1 / 4) &&& 3689348814741910323 = B1 at *
  generalize Y1 &&& 3689348814741910323 = B2 at *
  have b3 : IntKind.u64.wrap ((B1 : Int) + (B2 : Int)) = ((B1 + B2 : Nat) : Int) := by rw [← natU64_wrap (B1 + B2) (by omega)]; rfl
  have m3 : B1 + B2 ≤ 7378697629483820646 := by omega
  generalize B1 + B2 = Y2 at *
  have c1 : IntKind.u64.wrap ((Y2 : Int) / 16 + (Y2 : Int)) = ((Y2 / 16 + Y2 : Nat) : Int) := by rw [← natU64_wrap (Y2 / 16 + Y2) (by omega)]; rfl
  have n1 : Y2 / 16 + Y2 < 18446744073709551616 := by omega
  generalize Y2 / 16 + Y2 = Y3 at *
  have c2 : bits .and .u64 (Y3 : Int) 1085102592571150095 = ((Y3 &&& 1085102592571150095 : Nat) : Int) := natU64_and Y3 1085102592571150095 n1 (by omega)
  have n2 : Y3 &&& 1085102592571150095 ≤ 1085102592571150095 := Nat.and_le_right
  generalize Y3 &&& 1085102592571150095 = Y4 at *
  have d1 : IntKind.u64.wrap ((Y4 : Int) + (Y4 : Int) / 256) = ((Y4 + Y4 / 256 : Nat) : Int) := by rw [← natU64_wrap (Y4 + Y4 / 256) (by omega)]; rfl
  have o1 : Y4 + Y4 / 256 ≤ 1100000000000000000 := by omega
  dsimp only at HR
  generalize Y4 + Y4 / 256 = Y5 at *
  have d2 : IntKind.u64.wrap ((Y5 : Int) + (Y5 : Int) / 65536) = ((Y5 + Y5 / 65536 : Nat) : Int) := by rw [← natU64_wrap (Y5 + Y5 / 65536) (by omega)]; rfl
  have o2 : Y5 + Y5 / 65536 ≤ 1200000000000000000 := by omega
  generalize Y5 + Y5 / 65536 = Y6 at *
  have d3 : IntKind.u64.wrap ((Y6 : Int) + (Y6 : Int) / 4294967296) = ((Y6 + Y6 / 4294967296 : Nat) : Int) := by rw [← natU64_wrap (Y6 + Y6 / 4294967296) (by omega)]; rfl
  have o3 : Y6 + Y6 / 4294967296 ≤ 1300000000000000000 := by omega
  generalize Y6 + Y6 / 4294967296 = Y7 at *
  have d4 : bits .and .i64 (Y7 : Int) 127 = ((Y7 % 128 : Nat) : Int) := by
    have := natI64_and Y7 127 (by omega) (by omega)
    rw [show Y7 &&& 127 = Y7 % 128 from Nat.and_two_pow_sub_one_eq_mod Y7 7] at this
    rw [← this]; rfl
  have o4 : (Y7 : Int) ≤ 1300000000000000000 := by omega
  have o5 : (0 : Int) ≤ (Y7 : Int) := by omega
  clear hx l1 l2 l3 m1 m2 m3 n1 n2 o1 o2 o3
  go_enter Tryd.func29, Tryd.ntmps29
  go_wp2
  go_returns
  exact ⟨by rw [← HR.out]; rfl, rfl⟩
end Go.Proofs.YtikdmnedbfpkeaaDoor
