/- rank.each where lists are not equally long: walk. -/
import Derived.Test.YtikdmnedbfpkeaaDoorRkq
namespace Go.Proofs.YtikdmnedbfpkeaaDoor
open Go.RowKit Hy
set_option maxHeartbeats 800000 in
theorem each_form (F : Value) (len : Nat → Nat) (m b o cap f : Nat) (w : World) (hf : f < m) (hm : m ≤ 1000) (hc : ∀ k, k < m → ∃ A c, w.cell? ⟨b, o + k, none⟩ = some (.slice A (len k) c)) (h64 : ∀ k, k < m → len k ≤ 64) (h1 : ∀ k, k < f → len k = len 0) (h2 : len f ≠ len 0) :
    Calls Tryd.prog 35 #[F, .slice (some ⟨b, o, none⟩) m cap] w fun e w' => e = .returned (.tuple #[.slice none 0 0, .int .i64 1]) ∧ w = w' := by
  obtain ⟨A0, c0, d0⟩ := hc 0 (by omega)
  rw [Nat.add_zero] at d0
  have HC := hid hc
  have H0 := hid h64
  have H1 := hid h1
  have H2 := hid h2
  have hmI : (m : Int) ≤ 1000 := by omega
  have hm0 : (0 : Int) < (m : Int) := by omega
  clear hc h1 h2 h64
  generalize hz : len 0 = z at *
  clear hz
  go_enter Tryd.func35, Tryd.ntmps35
  go_wp2
  go_loop [17] (fun c => ∃ k : Nat, k ≤ m ∧ c = .int .i64 k) (fun c => m - (intOf c).toNat)
  case atStart => exact ⟨0, Nat.zero_le _, rfl⟩
  case round =>
    obtain ⟨k, hk, rfl⟩ := hrel
    by_cases hlt : k < m
    · obtain ⟨A1, c1, d1⟩ := HC.out k hlt
      have h := H0.out k hlt
      generalize len k = q at *
      have hq : ¬ (64 : Int) < (q : Int) := by omega
      clear h
      go_wp2
      go_round
      case rel => exact ⟨k + 1, by omega, by go_num⟩
      case measure => simp [intOf]; omega
    · obtain rfl : k = m := by omega
      clear hlt hk
      go_wp2
      go_loop [27] (fun c => ∃ i : Nat, i ≤ f ∧ c = .int .i64 i) (fun c => f - (intOf c).toNat)
      case atStart => exact ⟨0, Nat.zero_le _, rfl⟩
      case round =>
        obtain ⟨i, hi, rfl⟩ := hrel
        have him : (i : Int) < (k : Int) := by omega
        obtain ⟨A1, c1, d1⟩ := HC.out i (by omega)
        by_cases hlt : i < f
        · have h := H1.out i hlt
          rw [h] at d1
          have hq : ((z : Int) != (z : Int)) = false := by simp
          clear h
          go_wp2
          go_round
          case rel => exact ⟨i + 1, by omega, by go_num⟩
          case measure => simp [intOf]; omega
        · obtain rfl : i = f := by omega
          have h := H2.out
          generalize len i = q at *
          have hq : ((q : Int) != (z : Int)) = true := by rw [bne_iff_ne]; omega
          clear h
          go_wp2
          go_returns
          exact ⟨rfl, rfl⟩
end Go.Proofs.YtikdmnedbfpkeaaDoor
