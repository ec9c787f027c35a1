/- Tables: CheckColumn: walk. -/
import Derived.Test.YtolhifnlahllnaaGreatDoorTbb
import Derived.Test.YtolhifnlahllnaaGreatDoorAlo
namespace Hy.Tb
/-- what is wrong with a column's cells -/
@[irreducible] def ccol (kind : Int) (l : List Cel) : Nat := if kind ≠ 1 ∧ kind ≠ 2 then 7 else if 128 < l.length then 2 else Cel.bad kind l
end Hy.Tb
namespace Go.Proofs.YtolhifnlahllnaaGreatDoor
open Go.RowKit Hy
set_option maxHeartbeats 1600000 in
theorem ccol_any (kind : Int) (l : List Cel) (A : Option Addr) (n cap : Nat) (w : World) (hn : l.length = n) (hr : Rd w A (cls l)) (hnl : n ≤ 140737488355328) :
    Calls Tryz.prog 73 #[.int .i64 kind, .slice A n cap] w fun e w' => e = .returned (.int .i64 (Tb.ccol kind l : Nat)) ∧ Ext w w' := by
  have HK := hid (kind_any kind)
  have HN := hid hn
  have HA := hid hr
  obtain ⟨R, hR⟩ : ∃ R, R = Tb.ccol kind l := ⟨_, rfl⟩
  rw [← hR]
  have HR := hid (show R = if kind ≠ 1 ∧ kind ≠ 2 then 7 else if 128 < l.length then 2 else Cel.bad kind l by rw [hR]; unfold Tb.ccol; rfl)
  have hnI : (n : Int) ≤ 140737488355328 := by omega
  clear hR hr hn
  by_cases hk : kind = 1 ∨ kind = 2
  · have hd : decide (kind = 1 ∨ kind = 2) = true := by simpa using hk
    rw [hd] at HK
    by_cases h64 : n ≤ 128
    · have hI : (n : Int) ≤ 128 := by omega
      have HR0 := hid (show R = Cel.bad kind (l.drop 0) by rw [HR.out, if_neg (by omega), if_neg (by rw [HN.out]; omega)]; rfl)
      clear hd hk h64 hnl HR
      go_enter Tryz.func73, Tryz.ntmps73
      go_wp2_with (go_at_call 88; refine (HK.out _).mono ?_; rintro e w1 ⟨rfl, rfl⟩)
      go_loopw [6, 18] (fun _ c wr => ∃ k : Nat, k ≤ n ∧ c = .int .i64 k ∧ Hid (R = Cel.bad kind (l.drop k)) ∧ Ext w wr) (fun _ c _ => n - (intOf c).toNat)
      case atStart => exact ⟨0, Nat.zero_le _, rfl, HR0, ext_refl _⟩
      case round =>
        obtain ⟨k, hk, rfl, HI, X⟩ := hrel
        by_cases hlt : k < n
        · have hka : k < l.length := by rw [HN.out]; exact hlt
          obtain ⟨b1, o1, e1, l1, c1⟩ := HA.out.cels k hka
          subst e1
          have d0 := (X.cell (p := ⟨b1, o1 + k * 3, none⟩) l1).trans (c1 k hka).1
          have d1 := (X.cell (p := ⟨b1, o1 + k * 3 + 1, none⟩) l1).trans (c1 k hka).2.1
          have d2 := (X.cell (p := ⟨b1, o1 + k * 3 + 2, none⟩) l1).trans (c1 k hka).2.2
          have HAL := hid (alone_any kind l[k])
          have HBA := hid (fun h => Cel.bad_at (kind := kind) hka h)
          have HBN := hid (fun h => Cel.bad_next (kind := kind) hka h)
          obtain ⟨E, hE⟩ : ∃ E, E = Cel.alone kind l[k] := ⟨_, rfl⟩
          have hE7 := Cel.alone_le kind l[k]
          rw [← hE] at HAL HBA HBN hE7
          clear hE c1
          generalize l[k] = c at *
          obtain ⟨kk, nn, ss⟩ := c
          simp only at d0 d1 d2
          by_cases hE0 : E = 0
          · have HN2 := hid (show R = _ by rw [HI.out, HBN.out hE0])
            subst hE0
            clear HBA HBN hka hE7 HI
            go_wp2_with (go_at_call 62; go_loud (refine (HAL.out _).mono ?_; rintro e w2 ⟨rfl, x2⟩; have X2 := hid x2; clear x2))
            go_roundw
            case rel => exact ⟨k + 1, by omega, by go_num, HN2, (X.new _).then X2.out⟩
            case measure => simp [intOf]; omega
          · have HN2 := hid (show R = E by rw [HI.out, HBA.out hE0])
            have e1 : ((E : Int) == 0) = false := by rw [beq_eq_false_iff_ne]; omega
            have e2 : ((E : Int) != 0) = true := by simp; omega
            clear HBA HBN hka hE7 HI hE0
            go_wp2_with (go_at_call 62; go_loud (refine (HAL.out _).mono ?_; rintro e w2 ⟨rfl, x2⟩; have X2 := hid x2; clear x2))
            go_returns
            exact ⟨by rw [HN2.out]; rfl, (X.new _).then X2.out⟩
        · obtain rfl : k = n := by omega
          have HE := hid (show R = 0 by rw [HI.out, List.drop_of_length_le (by rw [HN.out]; exact Nat.le_refl _)]; rfl)
          go_wp2
          go_returns
          exact ⟨by rw [HE.out]; rfl, X⟩
    · have hI : 128 < (n : Int) := by omega
      have HE := hid (show R = 2 by rw [HR.out, if_neg (by omega), if_pos (by rw [HN.out]; omega)])
      clear hd hk h64 hnl HR
      go_enter Tryz.func73, Tryz.ntmps73
      go_wp2_with (go_at_call 88; refine (HK.out _).mono ?_; rintro e w1 ⟨rfl, rfl⟩)
      go_returns
      exact ⟨by rw [HE.out]; rfl, ext_refl _⟩
  · have hd : decide (kind = 1 ∨ kind = 2) = false := by simpa using hk
    rw [hd] at HK
    have HE := hid (show R = 7 by rw [HR.out, if_pos (by omega)])
    clear hd hk hnl HR
    go_enter Tryz.func73, Tryz.ntmps73
    go_wp2_with (go_at_call 88; refine (HK.out _).mono ?_; rintro e w1 ⟨rfl, rfl⟩)
    go_returns
    exact ⟨by rw [HE.out]; rfl, ext_refl _⟩
end Go.Proofs.YtolhifnlahllnaaGreatDoor
