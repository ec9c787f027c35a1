/- Patch: Cost, best: walks. -/
import Derived.Test.YtdblegdbfdhepaaPac
import Derived.Test.YtdblegdbfdhepaaGho
namespace Hy.Pat
open Go
/-- the best width so far: the least of the best ones among the first so many -/
def bst (M : List Nat) : Nat → Nat
  | 0 => 0
  | w + 1 => if cst M (w + 1) < cst M (bst M w) then w + 1 else bst M w
theorem bst_le (M : List Nat) (k : Nat) : bst M k ≤ k := by
  induction k with
  | zero => exact Nat.le_refl _
  | succ k ih => unfold bst; split <;> omega
theorem bst_least (M : List Nat) (k : Nat) : ∀ w, w ≤ k → cst M (bst M k) ≤ cst M w := by
  induction k with
  | zero => intro w hw; rw [show w = 0 by omega]; exact Nat.le_refl _
  | succ k ih =>
    intro w hw
    unfold bst
    split
    · rename_i h
      rcases Nat.lt_or_ge k w with h1 | h1
      · rw [show w = k + 1 by omega]; exact Nat.le_refl _
      · exact Nat.le_trans (Nat.le_of_lt h) (ih w h1)
    · rename_i h
      rcases Nat.lt_or_ge k w with h1 | h1
      · rw [show w = k + 1 by omega]; omega
      · exact ih w h1
/-- Cost -/
@[irreducible] def cos (l : List Nat) (w : Int) : Nat × Nat := if w < 0 ∨ 64 < w then (0, 3) else if 64 < l.length then (0, 2) else (cst (mor l) w.toNat, 0)
theorem cos_range {l : List Nat} {w : Int} (h : w < 0 ∨ 64 < w) : cos l w = (0, 3) := by unfold cos; rw [if_pos h]
theorem cos_many {l : List Nat} {w : Int} (h : ¬ (w < 0 ∨ 64 < w)) (h2 : 64 < l.length) : cos l w = (0, 2) := by unfold cos; rw [if_neg h, if_pos h2]
theorem cos_in {l : List Nat} {w : Nat} (h : w ≤ 64) (h2 : l.length ≤ 64) : cos l w = (cst (mor l) w, 0) := by unfold cos; rw [if_neg (by omega), if_neg (by omega), Int.toNat_natCast]
end Hy.Pat
namespace Go.Proofs.Ytdblegdbfdhepaa
open Go.RowKit Hy
set_option maxHeartbeats 1000000 in
theorem pCost_any (l : List Nat) (A : Option Addr) (n cap : Nat) (wd : Int) (w : World) (hn : l.length = n) (hr : Rd w A (u64s l)) (hl : ∀ x ∈ l, x < 18446744073709551616) (hnl : n ≤ 9223372036854775806) :
    Calls Try.prog 30 #[.slice A n cap, .int .i64 wd] w fun e w' => e = .returned (.tuple #[.int .i64 (Pat.cos l wd).1, .int .i64 (Pat.cos l wd).2]) ∧ Ext w w' := by
  have hnI : (n : Int) ≤ 9223372036854775806 := by omega
  by_cases h0 : wd < 0
  · rw [Pat.cos_range (.inl h0)]
    clear hr hn hl hnl
    go_enter Try.func30, Try.ntmps30
    go_wp2
    go_returns
    exact ⟨rfl, ext_refl _⟩
  by_cases h1 : 64 < wd
  · rw [Pat.cos_range (.inr h1)]
    clear hr hn hl hnl
    go_enter Try.func30, Try.ntmps30
    go_wp2
    go_returns
    exact ⟨rfl, ext_refl _⟩
  obtain ⟨k, rfl⟩ := Int.eq_ofNat_of_zero_le (show 0 ≤ wd by omega)
  have hkI : (k : Int) ≤ 64 := by omega
  by_cases h2 : 64 < n
  · have h2I : (64 : Int) < (n : Int) := by omega
    rw [Pat.cos_many (by omega) (by omega)]
    clear hr hn hl hnl h2 h0 h1
    go_enter Try.func30, Try.ntmps30
    go_wp2
    go_returns
    exact ⟨rfl, ext_refl _⟩
  · have h2I : (n : Int) ≤ 64 := by omega
    rw [Pat.cos_in (by omega) (by omega)]
    have HF := hid (framed_any l A n cap w hn hr hl (by omega))
    have HC := hid (fun B c base wx h => cost_any (Pat.mor l) B n c k base wx (by rw [Pat.mor_len, hn]) h (Pat.mor_lt l hl) (by omega) (by omega))
    have HE := hid (show Bits.size n k + Pat.xt k (Pat.mor l) = Pat.cst (Pat.mor l) k by unfold Pat.cst; rw [Pat.mor_len, hn])
    rw [HE.out] at HC
    clear hr hn hl hnl h2 h0 h1 hnI HE
    go_enter Try.func30, Try.ntmps30
    go_wp2_with fail
    refine Calls.mono HF.out ?_
    rintro e w1 ⟨B, c, rfl, hrd, hx, _⟩
    have HRD := hid hrd
    have X1 := hid hx
    clear hrd hx
    go_wp2_with fail
    refine Calls.mono (HC.out _ _ _ _ HRD.out) ?_
    rintro e w2 ⟨rfl, hx⟩
    replace X1 := hid (X1.out.then hx)
    clear hx
    go_wp2
    go_returns
    exact ⟨rfl, X1.out⟩
end Go.Proofs.Ytdblegdbfdhepaa
