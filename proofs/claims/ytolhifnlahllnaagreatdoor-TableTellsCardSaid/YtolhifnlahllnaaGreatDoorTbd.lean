/- Tables, the document: ColAt: walk (not built: the seat t7D lacks it; t7Z has it). -/
import Derived.Test.YtolhifnlahllnaaGreatDoorTba
namespace Go.Proofs.YtolhifnlahllnaaGreatDoor
open Go.RowKit Hy
set_option maxHeartbeats 800000 in
/-- the document's place of a column of a name -/
theorem colAt_any (l : List Ent) (s : ByteArray) (A : Option Addr) (n cap : Nat) (w : World) (hn : l.length = n) (hr : Rd w A (ens l)) (hnl : n ≤ 140737488355328) :
    Calls Tryz.prog 31 #[.slice A n cap, .string s] w fun e w' => e = .returned (.int .i64 (Tb.ixc l s 0)) ∧ w = w' := by
  have HN := hid hn
  have HA := hid hr
  obtain ⟨R, hR⟩ : ∃ R, R = Tb.ixc l s 0 := ⟨_, rfl⟩
  rw [← hR]
  have HR := hid (show R = Tb.ixc (l.drop 0) s 0 from hR)
  have hnI : (n : Int) ≤ 140737488355328 := by omega
  clear hn hr hnl hR
  go_enter Tryz.func31, Tryz.ntmps31
  go_wp2
  go_loop [5] (fun c => ∃ k : Nat, k ≤ n ∧ c = .int .i64 k ∧ Hid (R = Tb.ixc (l.drop k) s k)) (fun c => n - (intOf c).toNat)
  case atStart => exact ⟨0, Nat.zero_le _, rfl, HR⟩
  case round =>
    obtain ⟨k, hk, rfl, HI⟩ := hrel
    by_cases hlt : k < n
    · have hka : k < l.length := by rw [HN.out]; exact hlt
      obtain ⟨b1, o1, e1, l1, c1⟩ := HA.out.ents k hka
      subst e1
      have d0 := (c1 k hka).1
      have hkI : (k : Int) < (n : Int) := by omega
      by_cases he : l[k].1 = s
      · have HV := hid (HI.out.trans (Tb.ixc_here hka he))
        rw [he] at d0
        clear c1 he hka
        go_wp2
        go_returns
        exact ⟨by rw [HV.out]; rfl, rfl⟩
      · have HI2 := hid (HI.out.trans (Tb.ixc_next hka he))
        have hnb := Tb.tl_ne he
        generalize l[k].1 = x at *
        clear c1 he hka
        go_wp2
        go_round
        case rel => exact ⟨k + 1, by omega, by go_num, HI2⟩
        case measure => simp [intOf]; omega
    · obtain rfl : k = n := by omega
      have HV := hid (show R = -1 by rw [HI.out, List.drop_of_length_le (by rw [HN.out]; exact Nat.le_refl _)]; rfl)
      clear hlt
      go_wp2
      go_returns
      exact ⟨by rw [HV.out]; rfl, rfl⟩
end Go.Proofs.YtolhifnlahllnaaGreatDoor
