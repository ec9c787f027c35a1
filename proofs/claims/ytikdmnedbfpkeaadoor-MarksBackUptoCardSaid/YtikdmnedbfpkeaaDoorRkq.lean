/- rank.each where a list is too long, or where lists are not equally long: walks. -/
import Derived.Test.YtikdmnedbfpkeaaDoorMka
namespace Go.Proofs.YtikdmnedbfpkeaaDoor
open Go.RowKit Hy
set_option maxHeartbeats 800000 in
theorem each_many (F : Value) (len : Nat → Nat) (m b o cap f : Nat) (w : World) (hf : f < m) (hm : m ≤ 1000) (hc : ∀ k, k < m → ∃ A c, w.cell? ⟨b, o + k, none⟩ = some (.slice A (len k) c)) (h1 : ∀ k, k < f → len k ≤ 64) (h2 : 64 < len f) :
    Calls Tryd.prog 35 #[F, .slice (some ⟨b, o, none⟩) m cap] w fun e w' => e = .returned (.tuple #[.slice none 0 0, .int .i64 2]) ∧ w = w' := by
  have HC := hid hc
  have H1 := hid h1
  have H2 := hid h2
  have hmI : (m : Int) ≤ 1000 := by omega
  clear hc h1 h2
  go_enter Tryd.func35, Tryd.ntmps35
  go_wp2
  go_loop [17] (fun c => ∃ k : Nat, k ≤ f ∧ c = .int .i64 k) (fun c => f - (intOf c).toNat)
  case atStart => exact ⟨0, Nat.zero_le _, rfl⟩
  case round =>
    obtain ⟨k, hk, rfl⟩ := hrel
    have hkm : (k : Int) < (m : Int) := by omega
    obtain ⟨A1, c1, d1⟩ := HC.out k (by omega)
    by_cases hlt : k < f
    · have h := H1.out k hlt
      generalize len k = q at *
      have hq : ¬ (64 : Int) < (q : Int) := by omega
      clear h
      go_wp2
      go_round
      case rel => exact ⟨k + 1, by omega, by go_num⟩
      case measure => simp [intOf]; omega
    · obtain rfl : k = f := by omega
      have h := H2.out
      generalize len k = q at *
      have hq : (64 : Int) < (q : Int) := by omega
      clear h
      go_wp2
      go_returns
      exact ⟨rfl, rfl⟩
end Go.Proofs.YtikdmnedbfpkeaaDoor
