/- Runs: the laws' walks: RunsLeast, RunsJoins. -/
import Derived.Test.YtgobnpogmghgkaaRuu
import Derived.Test.YtgobnpogmghgkaaRow
namespace Go.Proofs.Ytgobnpogmghgkaa
open Go.RowKit Hy
set_option maxHeartbeats 1600000 in
theorem runsLeast_walk (r : List Runs.Run) (B : Option Addr) (m cb : Nat) (W : World) (hm : r.length = m) (hb : Rd W B (rws r)) (hml : m ≤ 140737488355328) :
    Calls Try.prog 13 #[.slice B m cb] W fun e w' => e = .returned (.bool true) ∧ Ext W w' := by
  have HM := hid hm
  have HB := hid hb
  have hmI : (m : Int) ≤ 140737488355328 := by omega
  clear hm hb hml
  go_enter Try.func13, Try.ntmps13
  go_wp2_with (go_at_call 26; refine (runsBegun_any _).mono ?_; rintro e w1 ⟨rfl, h2⟩; have HX1 := hid h2; clear h2)
  go_loopw [3, 4] (fun s c wr => ∃ k d : Nat, k ≤ m ∧ c = .int .i64 k ∧ s = .int .i64 d ∧ d ≤ 64 ∧ Hid ((Runs.unrun (r.take k)).length = d ∧ k ≤ d ∧ ∀ a ∈ r.take k, 1 ≤ a.2) ∧ Ext W wr) (fun _ c _ => m - (intOf c).toNat)
  case atStart => exact ⟨0, 0, Nat.zero_le _, rfl, rfl, by omega, hid ⟨by simp [Runs.unrun], Nat.le_refl _, by simp⟩, HX1.out⟩
  case round =>
    clear HX1
    obtain ⟨k, d, hk, rfl, rfl, hd, HD, X⟩ := hrel
    by_cases hlt : k < m
    · have hka : k < r.length := by rw [HM.out]; exact hlt
      obtain ⟨b1, o1, e1, l1, c1⟩ := HB.out.runs k hka
      subst e1
      have dn := (X.cell (p := ⟨b1, o1 + k * 2 + 1, none⟩) l1).trans (c1 k hka).2
      have hS := congrArg List.length (Runs.unrun_snoc r k hka)
      have hT : ∀ a ∈ r.take (k + 1), 1 ≤ r[k].2 → 1 ≤ a.2 := by
        intro a ha h1
        rw [List.take_succ_eq_append_getElem hka] at ha
        rcases List.mem_append.1 ha with h | h
        · exact HD.out.2.2 a h
        · simp at h; subst h; exact h1
      rw [List.length_append, List.length_replicate, HD.out.1] at hS
      obtain ⟨N, hN⟩ : ∃ N, N = r[k].2 := ⟨_, rfl⟩
      rw [← hN] at dn hS hT
      have HS := hid hS
      have HT := hid hT
      clear c1 hS hT hN hka
      by_cases g1 : N < 1
      · go_wp2
        go_returns
        exact ⟨rfl, X⟩
      · by_cases g2 : 64 < N
        · go_wp2
          go_returns
          exact ⟨rfl, X⟩
        · obtain ⟨Z, rfl⟩ : ∃ Z : Nat, N = (Z : Int) := ⟨N.toNat, by omega⟩
          have hZ : 1 ≤ (Z : Int) ∧ (Z : Int) ≤ 64 := by omega
          by_cases g3 : d + Z ≤ 64
          · go_wp2
            go_roundw
            case rel => exact ⟨k + 1, d + Z, by omega, by go_num, by go_num, by omega, hid ⟨by have := HS.out; rw [Int.toNat_natCast] at this; exact this, by have := HD.out.2.1; omega, fun a ha => HT.out a ha (by omega)⟩, X⟩
            case measure => simp [intOf]; omega
          · go_wp2
            go_returns
            exact ⟨rfl, X⟩
    · obtain rfl : k = m := by omega
      have e : r.take k = r := List.take_of_length_le (by rw [HM.out]; exact Nat.le_refl _)
      rw [e] at HD
      have HE := hid (expanded_any r B k cb wr HM.out (HB.out.keep X) (by have := HD.out; omega) (fun a ha => by have := HD.out.2.2 a ha; omega) (by have := HD.out; omega))
      have hle := Runs.runs_least r
      rw [HM.out] at hle
      have hU : (Runs.unrun r).length ≤ 64 := by have := HD.out; omega
      obtain ⟨U, hUe⟩ : ∃ U, U = Runs.unrun r := ⟨_, rfl⟩
      obtain ⟨R, hR⟩ : ∃ R, R = Runs.runs U := ⟨_, rfl⟩
      rw [← hUe] at HE hU hle
      rw [← hR] at hle
      have HU := hid hU
      have HR := hid hR
      obtain ⟨q, hq⟩ : ∃ q, q = R.length := ⟨_, rfl⟩
      rw [← hq] at hle
      have HQ := hid hq
      have hd2 : decide (q ≤ k) = true := by simpa using hle
      clear e hU hUe hR hq
      go_wp2_with fail
      refine HE.out.mono ?_
      rintro e w2 ⟨B2, c2, rfl, h1, h2⟩
      have R2 := hid h1
      have X2 := hid (X.then h2)
      clear h1 h2
      go_wp2_with fail
      refine (of_of U R _ _ _ _ rfl HU.out R2.out HR.out.symm).mono ?_
      rw [← HQ.out]
      rintro e w3 ⟨B3, c3, rfl, h1, h2, _, _⟩
      have X3 := hid (X2.out.then h2)
      clear h1 h2
      go_wp2
      go_returns
      exact ⟨rfl, X3.out⟩
end Go.Proofs.Ytgobnpogmghgkaa
