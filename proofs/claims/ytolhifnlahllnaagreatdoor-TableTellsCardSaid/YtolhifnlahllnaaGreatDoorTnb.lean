/- Names: NameCheck: walk. -/
import Derived.Test.YtolhifnlahllnaaGreatDoorTna
namespace Hy.Nm
theorem all_at {l : List UInt8} {k : Nat} (h : k < l.length) (ha : az l[k] = false) : l.all az = false := by
  rw [Bool.eq_false_iff]
  intro h1
  rw [List.all_eq_true] at h1
  rw [h1 _ (List.getElem_mem h)] at ha; cases ha
theorem all_of {l : List UInt8} (h : ∀ i (hi : i < l.length), az l[i] = true) : l.all az = true := by
  rw [List.all_eq_true]
  intro x hx
  obtain ⟨i, hi, rfl⟩ := List.getElem_of_mem hx
  exact h i hi
theorem nm_bad {l : List UInt8} (h : l.all az = false) : nm l = false := by unfold nm; rw [h, Bool.and_false]
theorem nm_good {l : List UInt8} (h : l.all az = true) : nm l = decide (1 ≤ l.length ∧ l.length ≤ 12) := by unfold nm; rw [h, Bool.and_true]
end Hy.Nm
namespace Go.Proofs.YtolhifnlahllnaaGreatDoor
open Go.RowKit Hy
set_option maxHeartbeats 800000 in
theorem nameCheck_any (s : ByteArray) (w : World) (hs : s.size ≤ 140737488355328) : Calls Tryz.prog 72 #[.string s] w fun e w' => e = .returned (.bool (Nm.nm s.data.toList)) ∧ w = w' := by
  have hlen : s.data.toList.length = s.size := Array.length_toList
  obtain ⟨l, hl⟩ : ∃ l, l = s.data.toList := ⟨_, rfl⟩
  rw [← hl] at hlen ⊢
  have HL := hid hl
  have HLN := hid hlen
  have hsI : (s.size : Int) ≤ 140737488355328 := by omega
  clear hl hlen hs
  go_enter Tryz.func72, Tryz.ntmps72
  go_wp2
  go_loop [3] (fun c => ∃ k : Nat, k ≤ s.size ∧ c = .int .i64 k ∧ Hid (∀ i (hi : i < l.length), i < k → Nm.az l[i] = true)) (fun c => s.size - (intOf c).toNat)
  case atStart => exact ⟨0, Nat.zero_le _, rfl, hid (fun i hi h => absurd h (Nat.not_lt_zero _))⟩
  case round =>
    obtain ⟨k, hk, rfl, HI⟩ := hrel
    by_cases hlt : k < s.size
    · have hkl : k < l.length := by rw [HLN.out]; exact hlt
      obtain ⟨c, hcd⟩ : ∃ c, c = l[k] := ⟨_, rfl⟩
      have HCD := hid hcd
      have hix : ∀ w, (Instr.index 9 (.string s) (.int .i64 (k : Int))).run Tryz.prog w = .ok (.int .u8 c.toNat) w := fun w => run_ix Tryz.underlying9 s .i64 k c (by rw [← HL.out, List.getElem?_eq_getElem hkl, hcd])
      have hkI : (k : Int) < (s.size : Int) := by omega
      clear hcd
      cases ha : Nm.az c with
      | false =>
        have HV := hid (Nm.nm_bad (Nm.all_at hkl ((congrArg Nm.az HCD.out.symm).trans ha)))
        by_cases h1 : c.toNat < 97
        · have h1I : ((c.toNat : Nat) : Int) < 97 := by omega
          clear ha h1
          go_wp2
          go_returns
          exact ⟨by rw [HV.out]; rfl, rfl⟩
        · have h2 : 122 < c.toNat := by
            unfold Nm.az at ha
            rw [Bool.and_eq_false_iff] at ha
            rcases ha with h | h
            · exact absurd (show 97 ≤ c.toNat by omega) (of_decide_eq_false h)
            · have := of_decide_eq_false h; omega
          have h1I : (97 : Int) ≤ ((c.toNat : Nat) : Int) := by omega
          have h2I : (122 : Int) < ((c.toNat : Nat) : Int) := by omega
          clear ha h1 h2
          go_wp2
          go_returns
          exact ⟨by rw [HV.out]; rfl, rfl⟩
      | true =>
        have HI2 := hid (show ∀ i (hi : i < l.length), i < k + 1 → Nm.az l[i] = true from fun i hi h => by
          by_cases he : i = k
          · subst he; exact (congrArg Nm.az HCD.out.symm).trans ha
          · exact HI.out i hi (by omega))
        unfold Nm.az at ha
        rw [Bool.and_eq_true] at ha
        have h1I : (97 : Int) ≤ ((c.toNat : Nat) : Int) := by have := of_decide_eq_true ha.1; omega
        have h2I : ((c.toNat : Nat) : Int) ≤ 122 := by have := of_decide_eq_true ha.2; omega
        clear ha
        go_wp2
        go_round
        case rel => exact ⟨k + 1, by omega, by go_num, HI2⟩
        case measure => simp [intOf]; omega
    · obtain rfl : k = s.size := by omega
      have HV := hid (show Nm.nm l = decide (1 ≤ s.size ∧ s.size ≤ 12) by rw [Nm.nm_good (Nm.all_of fun i hi => HI.out i hi (by rw [← HLN.out]; exact hi)), HLN.out])
      clear hlt
      by_cases h1 : 1 ≤ s.size
      · by_cases h2 : s.size ≤ 12
        · have HV2 := hid (show Nm.nm l = true by rw [HV.out]; exact decide_eq_true ⟨h1, h2⟩)
          have h1I : (1 : Int) ≤ (s.size : Int) := by omega
          have h2I : (s.size : Int) ≤ 12 := by omega
          clear h1 h2
          go_wp2
          go_returns
          exact ⟨by rw [HV2.out]; rfl, rfl⟩
        · have HV2 := hid (show Nm.nm l = false by rw [HV.out]; exact decide_eq_false (by omega))
          have h1I : (1 : Int) ≤ (s.size : Int) := by omega
          have h2I : (12 : Int) < (s.size : Int) := by omega
          clear h1 h2
          go_wp2
          go_returns
          exact ⟨ret_bool (by rw [HV2.out]; exact decide_eq_false (by omega)), rfl⟩
      · have HV2 := hid (show Nm.nm l = false by rw [HV.out]; exact decide_eq_false (by omega))
        have h1I : (s.size : Int) < 1 := by omega
        clear h1
        go_wp2
        go_returns
        exact ⟨by rw [HV2.out]; rfl, rfl⟩
end Go.Proofs.YtolhifnlahllnaaGreatDoor
