/- Texts: the order of lists of bytes. No program in sight. -/
import Derived.Test.YtolhifnlahllnaaDoorDcp
import Derived.Test.YtolhifnlahllnaaDoorCel
import Derived.Test.YtolhifnlahllnaaDoorFrp
namespace Hy.Dct
open Go
theorem bless (a b : T) : Op.bytesLess a b = decide (a < b) := by
  induction a generalizing b with
  | nil => cases b <;> simp [Op.bytesLess]
  | cons x a ih =>
    cases b with
    | nil => simp [Op.bytesLess]
    | cons y b =>
      rw [Front.less_cons, ih]
      by_cases h : x = y
      · subst h; simp
      · simp [List.cons_lt_cons_iff, h]
theorem nless (a b : T) : numsLess (a.map UInt8.toNat) (b.map UInt8.toNat) = decide (a < b) := by
  induction a generalizing b with
  | nil => cases b <;> simp [numsLess]
  | cons x a ih =>
    cases b with
    | nil => simp [numsLess]
    | cons y b =>
      simp only [List.map_cons, numsLess, ih]
      by_cases h : x = y
      · subst h; simp
      · have h2 : ¬ x.toNat = y.toNat := fun e => h (UInt8.toNat.inj e)
        simp [List.cons_lt_cons_iff, h, h2, UInt8.lt_iff_toNat_lt]
theorem tless_eq (a b : T) : Cel.tless ⟨a.toArray⟩ ⟨b.toArray⟩ = decide (a < b) := nless a b
end Hy.Dct
