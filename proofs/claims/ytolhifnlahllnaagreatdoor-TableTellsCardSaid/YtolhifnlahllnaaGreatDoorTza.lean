/- Tables, the document: ColumnCheck, oneCol: walks. -/
import Derived.Test.YtolhifnlahllnaaGreatDoorTbd
import Derived.Test.YtolhifnlahllnaaGreatDoorTnb
import Derived.Test.YtolhifnlahllnaaGreatDoorTbc
import Derived.Test.YtolhifnlahllnaaGreatDoorCee
namespace Go.Proofs.YtolhifnlahllnaaGreatDoor
open Go.RowKit Hy
set_option maxHeartbeats 1600000 in
/-- the document's check of a column beside those before it -/
theorem oneCol_any (s : ByteArray) (y : Int) (l : List Ent) (A : Option Addr) (n cap : Nat) (w : World) (hn : l.length = n) (hr : Rd w A (ens l)) (hnl : n ≤ 140737488355328) (hs : s.size ≤ 140737488355328) :
    Calls Tryz.prog 69 #[.agg #[.string s, .int .i64 y], .slice A n cap] w fun e w' => e = .returned (.int .i64 (Tb.colck (s, y) l : Nat)) ∧ Ext w w' := by
  have HNM := hid (fun wx => nameCheck_any s wx hs)
  have HAT := hid (fun wx (hx : Ext w wx) => colAt_any l s A n cap wx hn (hr.keep hx) hnl)
  have XN := hid (Ext.new (ext_refl w) (.cells #[.string s, .int .i64 y] 39))
  cases hm : Nm.nm s.data.toList
  · have HV := hid (Tb.colck_name (c := (s, y)) (pre := l) hm)
    rw [hm] at HNM
    clear hn hr hnl hs hm
    go_enter Tryz.func69, Tryz.ntmps69
    go_wp2_with fail
    refine Calls.mono (HNM.out _) ?_
    rintro e w1 ⟨rfl, rfl⟩
    go_wp2
    go_returns
    exact ⟨by rw [HV.out]; rfl, XN.out⟩
  · rw [hm] at HNM
    by_cases h2 : 0 ≤ Tb.ixc l s 0
    · have HV := hid (Tb.colck_twice (c := (s, y)) (pre := l) hm h2)
      generalize Tb.ixc l s 0 = i at *
      clear hn hr hnl hs hm
      go_enter Tryz.func69, Tryz.ntmps69
      go_wp2_with fail
      refine Calls.mono (HNM.out _) ?_
      rintro e w1 ⟨rfl, rfl⟩
      go_wp2_with fail
      refine Calls.mono (HAT.out _ XN.out) ?_
      rintro e w1 ⟨rfl, rfl⟩
      go_wp2
      go_returns
      exact ⟨by rw [HV.out]; rfl, XN.out⟩
    · have HV := hid (Tb.colck_kind (c := (s, y)) (pre := l) hm h2)
      generalize Tb.ixc l s 0 = i at *
      have h3 : i < 0 := by omega
      clear hn hr hnl hs hm h2
      have K1 : ((y != 1) = false ∧ (y == 1) = true ∧ (y = 1 ∨ y = 2)) ∨ ((y != 1) = true ∧ (y == 1) = false ∧ (y != 2) = false ∧ (y == 2) = true ∧ (y = 1 ∨ y = 2)) ∨ ((y != 1) = true ∧ (y == 1) = false ∧ (y != 2) = true ∧ (y == 2) = false ∧ ¬(y = 1 ∨ y = 2)) := by
        by_cases h1 : y = 1
        · left; subst h1; exact ⟨rfl, rfl, .inl rfl⟩
        · by_cases h2 : y = 2
          · right; left; subst h2; exact ⟨rfl, rfl, rfl, rfl, .inr rfl⟩
          · right; right; exact ⟨bne_iff_ne.2 h1, beq_eq_false_iff_ne.2 h1, bne_iff_ne.2 h2, beq_eq_false_iff_ne.2 h2, by omega⟩
      rcases K1 with ⟨g1, g2, g5⟩ | ⟨g1, g2, g3, g4, g5⟩ | ⟨g1, g2, g3, g4, g5⟩
      all_goals (
        first
        | rw [if_pos g5] at HV
        | rw [if_neg g5] at HV
        clear g5
        go_enter Tryz.func69, Tryz.ntmps69
        go_wp2_with fail
        refine Calls.mono (HNM.out _) ?_
        rintro e w1 ⟨rfl, rfl⟩
        go_wp2_with fail
        refine Calls.mono (HAT.out _ XN.out) ?_
        rintro e w1 ⟨rfl, rfl⟩
        go_wp2
        go_returns
        exact ⟨by rw [HV.out]; rfl, XN.out⟩)
set_option maxHeartbeats 1600000 in
/-- the document's check of a column's cells -/
theorem columnCheck_any (kind : Int) (l : List Cel) (A : Option Addr) (n cap : Nat) (w : World) (hn : l.length = n) (hr : Rd w A (cls l)) (hnl : n ≤ 140737488355328) :
    Calls Tryz.prog 70 #[.int .i64 kind, .slice A n cap] w fun e w' => e = .returned (.int .i64 (Tb.ccol kind l : Nat)) ∧ Ext w w' := by
  have HN := hid hn
  have HA := hid hr
  obtain ⟨R, hR⟩ : ∃ R, R = Tb.ccol kind l := ⟨_, rfl⟩
  rw [← hR]
  have HR := hid (show R = if kind ≠ 1 ∧ kind ≠ 2 then 7 else if 128 < l.length then 2 else Cel.bad kind l by rw [hR]; unfold Tb.ccol; rfl)
  have hnI : (n : Int) ≤ 140737488355328 := by omega
  clear hR hr hn
  by_cases hk : kind = 1 ∨ kind = 2
  · by_cases h64 : n ≤ 128
    · have hI : (n : Int) ≤ 128 := by omega
      have HR0 := hid (show R = Cel.bad kind (l.drop 0) by rw [HR.out, if_neg (by omega), if_neg (by rw [HN.out]; omega)]; rfl)
      clear h64 hnl HR
      have K1 : ((kind != 1) = false) ∨ ((kind != 1) = true ∧ (kind != 2) = false) := by
        rcases hk with h | h
        · left; rw [h]; rfl
        · right; rw [h]; exact ⟨rfl, rfl⟩
      clear hk
      rcases K1 with g1 | ⟨g1, g2⟩
      all_goals (
        go_enter Tryz.func70, Tryz.ntmps70
        go_wp2
        go_loopw [5, 6] (fun c _ wr => ∃ k : Nat, k ≤ n ∧ c = .int .i64 k ∧ Hid (R = Cel.bad kind (l.drop k)) ∧ Ext w wr) (fun c _ _ => n - (intOf c).toNat)
        case atStart => exact ⟨0, Nat.zero_le _, rfl, HR0, ext_refl _⟩
        case round =>
          obtain ⟨k, hk, rfl, HI, X⟩ := hrel
          by_cases hlt : k < n
          · have hka : k < l.length := by rw [HN.out]; exact hlt
            obtain ⟨b1, o1, e1, l1, c1⟩ := HA.out.cels k hka
            subst e1
            have d0 := (X.cell (p := ⟨b1, o1 + k * 3, none⟩) l1).trans (c1 k hka).1
            have d1 := (X.cell (p := ⟨b1, o1 + k * 3 + 1, none⟩) l1).trans (c1 k hka).2.1
            have d2 := (X.cell (p := ⟨b1, o1 + k * 3 + 2, none⟩) l1).trans (c1 k hka).2.2
            have HAL := hid (cellCheck_any kind l[k])
            have HBA := hid (fun h => Cel.bad_at (kind := kind) hka h)
            have HBN := hid (fun h => Cel.bad_next (kind := kind) hka h)
            obtain ⟨E, hE⟩ : ∃ E, E = Cel.alone kind l[k] := ⟨_, rfl⟩
            have hE7 := Cel.alone_le kind l[k]
            rw [← hE] at HAL HBA HBN hE7
            clear hE c1
            generalize l[k] = c at *
            obtain ⟨kk, nn, ss⟩ := c
            simp only at d0 d1 d2
            by_cases hE0 : E = 0
            · have HN2 := hid (show R = _ by rw [HI.out, HBN.out hE0])
              subst hE0
              clear HBA HBN hka hE7 HI
              go_wp2_with (go_at_call 71; go_loud (refine (HAL.out _).mono ?_; rintro e w2 ⟨rfl, x2⟩; have X2 := hid x2; clear x2))
              go_roundw
              case rel => exact ⟨k + 1, by omega, by go_num, HN2, X.then X2.out⟩
              case measure => simp [intOf]; omega
            · have HN2 := hid (show R = E by rw [HI.out, HBA.out hE0])
              have e1 : ((E : Int) == 0) = false := by rw [beq_eq_false_iff_ne]; omega
              have e2 : ((E : Int) != 0) = true := by simp; omega
              clear HBA HBN hka hE7 HI hE0
              go_wp2_with (go_at_call 71; go_loud (refine (HAL.out _).mono ?_; rintro e w2 ⟨rfl, x2⟩; have X2 := hid x2; clear x2))
              go_returns
              exact ⟨by rw [HN2.out]; rfl, X.then X2.out⟩
          · obtain rfl : k = n := by omega
            have HE := hid (show R = 0 by rw [HI.out, List.drop_of_length_le (by rw [HN.out]; exact Nat.le_refl _)]; rfl)
            go_wp2
            go_returns
            exact ⟨by rw [HE.out]; rfl, X⟩)
    · have hI : 128 < (n : Int) := by omega
      have HE := hid (show R = 2 by rw [HR.out, if_neg (by omega), if_pos (by rw [HN.out]; omega)])
      clear h64 hnl HR
      have K1 : ((kind != 1) = false) ∨ ((kind != 1) = true ∧ (kind != 2) = false) := by
        rcases hk with h | h
        · left; rw [h]; rfl
        · right; rw [h]; exact ⟨rfl, rfl⟩
      clear hk
      rcases K1 with g1 | ⟨g1, g2⟩
      all_goals (
        go_enter Tryz.func70, Tryz.ntmps70
        go_wp2
        go_returns
        exact ⟨by rw [HE.out]; rfl, ext_refl _⟩)
  · have e1 : (kind != 1) = true := by simp; omega
    have e2 : (kind != 2) = true := by simp; omega
    have HE := hid (show R = 7 by rw [HR.out, if_pos (by omega)])
    clear hk hnl HR
    go_enter Tryz.func70, Tryz.ntmps70
    go_wp2
    go_returns
    exact ⟨by rw [HE.out]; rfl, ext_refl _⟩
end Go.Proofs.YtolhifnlahllnaaGreatDoor
