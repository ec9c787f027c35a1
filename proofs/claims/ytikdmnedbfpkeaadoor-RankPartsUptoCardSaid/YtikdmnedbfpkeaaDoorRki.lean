/- TrailingZeros64: walk over the laid table. -/
import Derived.Test.YtikdmnedbfpkeaaDoorRkh
namespace Go.Proofs.YtikdmnedbfpkeaaDoor
open Go.RowKit Hy
/-- the table of trailing zeros is laid in this world -/
def TabOk (w : World) : Prop := 0 < w.heap.size ∧ ∀ i v, Tz.tab[i]? = some v → w.cell? ⟨0, i, none⟩ = some (.int .u8 ((v : Nat) : Int))
theorem TabOk.keep {w w' : World} (h : TabOk w) (hx : Ext w w') : TabOk w' :=
  ⟨Nat.lt_of_lt_of_le h.1 hx.size, fun i v hv => (hx.cell (p := ⟨0, i, none⟩) h.1).trans (h.2 i v hv)⟩
set_option maxHeartbeats 800000 in
theorem tz_any (x : Nat) (hx : x < 18446744073709551616) (h0 : x ≠ 0) (w : World) (hT : TabOk w) :
    Calls Tryd.prog 30 #[.int .u64 (x : Int)] w fun e w' => e = .returned (.int .i64 (Tz.tz 64 x : Nat)) ∧ w = w' := by
  obtain ⟨q, hq, ht⟩ := Tz.tz_spec 64 x hx h0
  have hl := Tz.low x hx h0
  have hc := hT.2 (Tz.ix (Tz.tz 64 x)) (Tz.tz 64 x) (Tz.tab_ix ⟨Tz.tz 64 x, ht⟩)
  have hi := Tz.ix_lt (Tz.tz 64 x)
  unfold Tz.ix at hc hi
  have hle : 2 ^ Tz.tz 64 x ≤ 2 ^ 63 := Nat.pow_le_pow_right (by decide) (by omega)
  generalize Tz.tz 64 x = t at *
  obtain ⟨P, hP⟩ : ∃ P, P = 2 ^ t := ⟨_, rfl⟩
  rw [← hP] at hl hc hi hle
  have hw1 : IntKind.u64.wrap (-(x : Int)) = ((2 ^ 64 - x : Nat) : Int) := by rw [IntKind.wrap_u64]; omega
  have hN : 2 ^ 64 - x < 18446744073709551616 := by omega
  have hw2 := natU64_and x (2 ^ 64 - x) hx hN
  rw [hl] at hw2
  generalize 2 ^ 64 - x = N at *
  have hw3 : IntKind.u64.wrap ((P : Int) * 285870213051353865) = ((P * 285870213051353865 % 18446744073709551616 : Nat) : Int) := by rw [IntKind.wrap_u64]; omega
  have hM : P * 285870213051353865 % 18446744073709551616 < 18446744073709551616 := Nat.mod_lt _ (by decide)
  generalize P * 285870213051353865 % 18446744073709551616 = M at *
  obtain ⟨j, hj⟩ : ∃ j, j = M / 288230376151711744 := ⟨_, rfl⟩
  rw [← hj] at hc hi
  have hw4 : (M : Int) / 288230376151711744 = (j : Int) := by omega
  have hjI : (j : Int) < 64 := by omega
  have hj0 : (0 : Int) ≤ (j : Int) := by omega
  have htI : (t : Int) < 64 := by omega
  have hz : ((x : Int) == 0) = false := by rw [beq_eq_false_iff_ne]; omega
  have hg := hT.1
  clear hx h0 hq ht hl hi hle hP hN hM hj hT
  go_enter Tryd.func30, Tryd.ntmps30
  go_wp2
  go_returns
  exact ⟨rfl, rfl⟩
end Go.Proofs.YtikdmnedbfpkeaaDoor
