/- Bits: the document's own PackOf: its walk. -/
import Derived.Test.YtdblegdbfdhepaaBrf
namespace Go.Proofs.Ytdblegdbfdhepaa
open Go.RowKit Hy
set_option maxHeartbeats 400000 in
theorem packOf_any (l : List Nat) (A : Option Addr) (n cap : Nat) (wd : Int) (w : World) (hn : l.length = n) (hr : Rd w A (u64s l)) (hl : ∀ x ∈ l, x < 18446744073709551616) (hnl : n ≤ 9223372036854775806) :
    Calls Try.prog 21 #[.slice A n cap, .int .i64 wd] w fun e w' => e = .returned (.tuple #[.string ⟨(Bits.pk l wd).1.toArray⟩, .int .i64 (Bits.pk l wd).2]) ∧ Ext w w' := by
  have C30 := fun wx : World => fun hx : Ext w wx => hid (widthOf_any l A n cap wx hn (hr.keep hx) hl hnl)
  have hw64 := Bits.width_le64 l hl
  have hiff := Bits.width_le_iff l
  have C43 := hid (fun (k : Nat) (wx : World) (hx : Ext w wx) => packedOf_any l A n cap k wx hn (hr.keep hx))
  by_cases h1 : 0 ≤ wd ∧ wd ≤ 64
  · have h1a : (0 : Int) ≤ wd := h1.1
    have h1b : wd ≤ 64 := h1.2
    by_cases h2 : 64 < n
    · have HP := hid (show Bits.pk l wd = ([], 2) by unfold Bits.pk; rw [if_neg (fun h => h h1), if_pos (by omega)])
      have h2I : (64 : Int) < (n : Int) := by omega
      clear hr hl hn h2 hiff hw64 h1
      go_enter Try.func21, Try.ntmps21
      go_wp2
      go_returns
      exact ⟨by rw [HP.out]; rfl, ext_refl _⟩
    · have h2I : ¬ (64 : Int) < (n : Int) := by omega
      obtain ⟨k, rfl⟩ := Int.eq_ofNat_of_zero_le h1.1
      by_cases h3 : (k : Int) < (Bits.width l : Int)
      · have HP := hid (show Bits.pk l (k : Int) = ([], 8) by unfold Bits.pk; rw [if_neg (fun h => h h1), if_neg (by omega), if_pos h3])
        obtain ⟨q, hq⟩ : ∃ q, q = Bits.width l := ⟨_, rfl⟩
        rw [← hq] at h3 C30
        clear hr hl hn h2 hiff hw64 hq h1
        go_enter Try.func21, Try.ntmps21
        go_wp2_with (go_at_call 53; refine (C30 _ (ext_refl _)).out.mono ?_; rintro e w3 ⟨rfl, rfl⟩)
        go_returns
        exact ⟨by rw [HP.out]; rfl, ext_refl _⟩
      · have HP := hid (show Bits.pk l (k : Int) = (Bits.packed l k, 0) by unfold Bits.pk; rw [if_neg (fun h => h h1), if_neg (by omega), if_neg h3, Int.toNat_natCast])
        have CR := hid (C43.out k w (ext_refl _) ((hiff k hl (by omega)).1 (by omega)) (by omega) (by omega))
        obtain ⟨q, hq⟩ : ∃ q, q = Bits.width l := ⟨_, rfl⟩
        rw [← hq] at h3 C30
        clear hr hl hn h2 hiff hw64 hq h1 C43
        obtain ⟨S, hS⟩ : ∃ S : ByteArray, S = ⟨(Bits.packed l k).toArray⟩ := ⟨_, rfl⟩
        rw [← hS] at CR
        have HS := hid hS
        clear hS
        go_enter Try.func21, Try.ntmps21
        go_wp2_with (first
          | (go_at_call 53; refine (C30 _ (ext_refl _)).out.mono ?_; rintro e w3 ⟨rfl, rfl⟩)
          | (go_at_call 54; refine CR.out.mono ?_; rintro e w4 ⟨rfl, b4⟩))
        go_returns
        exact ⟨by rw [HP.out, HS.out]; rfl, b4⟩
  · have HP := hid (show Bits.pk l wd = ([], 3) by unfold Bits.pk; rw [if_pos h1])
    clear hr hl hn hiff hw64 C43
    by_cases h2 : wd < 0
    · clear h1
      go_enter Try.func21, Try.ntmps21
      go_wp2
      go_returns
      exact ⟨by rw [HP.out]; rfl, ext_refl _⟩
    · have h3 : 64 < wd := by omega
      clear h1
      go_enter Try.func21, Try.ntmps21
      go_wp2
      go_returns
      exact ⟨by rw [HP.out]; rfl, ext_refl _⟩
end Go.Proofs.Ytdblegdbfdhepaa
