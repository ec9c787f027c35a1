/- Vary: the document's own: varyLen: its walk. -/
import Derived.Test.YtdblegdbfdhepaaRows
import Derived.Test.YtdblegdbfdhepaaVap
import Derived.Test.YtdblegdbfdhepaaApp
namespace Hy.Vary
/-- what is left of a byte when i ones are off -/
def rest (c i : Nat) : Nat := (c - lead i) * 2 ^ i
theorem rest_all : ∀ (c : Fin 256) (i : Fin 9), i.val ≤ ones c.val → rest c.val i.val < 256 ∧ (i.val < ones c.val → 128 ≤ rest c.val i.val ∧ (rest c.val i.val - 128) * 2 = rest c.val (i.val + 1)) ∧ (i.val = ones c.val → i.val < 8 → rest c.val i.val < 128) := by decide +kernel
theorem rest_fact (c i : Nat) (hc : c < 256) (hi : i < 9) (h : i ≤ ones c) : rest c i < 256 ∧ (i < ones c → 128 ≤ rest c i ∧ (rest c i - 128) * 2 = rest c (i + 1)) ∧ (i = ones c → i < 8 → rest c i < 128) := rest_all ⟨c, hc⟩ ⟨i, hi⟩ h
end Hy.Vary
namespace Go.Proofs.Ytdblegdbfdhepaa
open Go.RowKit Hy
theorem varyLen_any (c : Nat) (w : World) (hc : c < 256) :
    Calls Try.prog 86 #[.int .i64 c] w fun e w' => e = .returned (.int .i64 ((Vary.ones c + 1 : Nat) : Int)) ∧ w = w' := by
  have H := hid (fun i hi => Vary.rest_fact c i hc hi)
  have h8 : Vary.ones c ≤ 8 := (Vary.ones_all ⟨c, hc⟩).1
  have h00 : Vary.rest c 0 = c := by simp [Vary.rest, Vary.lead]
  generalize Vary.ones c = k at *
  clear hc
  go_enter Try.func86, Try.ntmps86
  go_wp2
  go_loop [0, 3] (fun a b => ∃ i : Nat, i ≤ k ∧ a = .int .i64 (Vary.rest c i) ∧ b = .int .i64 (i + 1 : Nat)) (fun _ b => 9 - (intOf b).toNat)
  case atStart => exact ⟨0, Nat.zero_le _, by rw [h00], rfl⟩
  case round =>
    obtain ⟨i, hi, rfl, rfl⟩ := hrel
    clear h00
    obtain ⟨h1', h2, h3⟩ := H.out i (by omega) hi
    have h1 : (Vary.rest c i : Int) ≤ 255 := by omega
    clear h1'
    by_cases hlt : i < k
    · have h4 : (128 : Int) ≤ (Vary.rest c i : Int) := by have := (h2 hlt).1; omega
      have H5 := hid (show (Vary.rest c (i + 1) : Int) = ((Vary.rest c i : Int) - 128) * 2 by have := (h2 hlt).2; omega)
      clear h2 h3
      generalize ((Vary.rest c i : Nat) : Int) = r at *
      go_wp2
      all_goals
        go_round
        case rel => exact ⟨i + 1, by omega, by rw [H5.out], by go_num⟩
        case measure => simp [intOf]; omega
    · obtain rfl : i = k := by omega
      clear h2 hlt
      by_cases hk : i < 8
      · have h4 : (Vary.rest c i : Int) < 128 := by have := h3 rfl hk; omega
        clear h3
        generalize ((Vary.rest c i : Nat) : Int) = r at *
        go_wp2
        go_returns
        exact ⟨rfl, rfl⟩
      · obtain rfl : i = 8 := by omega
        clear h3
        go_wp2
        go_returns
        exact ⟨rfl, rfl⟩
end Go.Proofs.Ytdblegdbfdhepaa
