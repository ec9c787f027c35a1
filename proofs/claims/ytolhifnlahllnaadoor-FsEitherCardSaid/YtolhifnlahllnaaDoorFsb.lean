/- Files: dirCheck: walk. -/
import Derived.Test.YtolhifnlahllnaaDoorFsa
import Derived.Test.YtolhifnlahllnaaDoorTnb
import Derived.Test.YtolhifnlahllnaaDoorTls
namespace Hy.Fs
open Go
theorem tless_names (a b : ByteArray) : Cel.tless a b = decide (a.data.toList < b.data.toList) := by
  have h := Dct.tless_eq a.data.toList b.data.toList
  simpa using h
theorem dirck_eq (n : Int) (l : List Ent) : dirck n l = dck n (l.take 0) (l.drop 0) := by unfold dirck; rfl
end Hy.Fs
namespace Go.Proofs.YtolhifnlahllnaaDoor
open Go.RowKit Hy
set_option maxHeartbeats 3200000 in
set_option maxRecDepth 100000 in
theorem dirCheck_any (l : List Ent) (m : Int) (A : Option Addr) (n cap : Nat) (w : World) (hn : l.length = n) (hr : Rd w A (ens l)) (hnl : n ≤ 140737488355328) (hs : ∀ x ∈ l, x.1.size ≤ 140737488355328) :
    Calls Tryd.prog 51 #[.slice A n cap, .int .i64 m] w fun e w' => e = .returned (.int .i64 (Fs.dirck m l : Nat)) ∧ Ext w w' := by
  have HN := hid hn
  have HA := hid hr
  have HSZ := hid hs
  obtain ⟨R, hR⟩ : ∃ R, R = Fs.dirck m l := ⟨_, rfl⟩
  rw [← hR]
  have HR0 := hid (show R = Fs.dck m (l.take 0) (l.drop 0) by rw [hR]; exact Fs.dirck_eq m l)
  have hnI : (n : Int) ≤ 140737488355328 := by omega
  clear hR hn hr hnl hs
  go_enter Tryd.func51, Tryd.ntmps51
  go_wp2
  go_loopw [5, 6] (fun c _ wr => ∃ k : Nat, k ≤ n ∧ c = .int .i64 k ∧ Hid (R = Fs.dck m (l.take k) (l.drop k)) ∧ Hid (Ext w wr)) (fun c _ _ => n - (intOf c).toNat)
  case atStart => exact ⟨0, Nat.zero_le _, rfl, HR0, ext_refl _⟩
  case round =>
    obtain ⟨k, hk, rfl, HI, HX⟩ := hrel
    by_cases hlt : k < n
    · have hka : k < l.length := by rw [HN.out]; exact hlt
      obtain ⟨b1, o1, e1, l1, c1⟩ := HA.out.ents k hka
      subst e1
      have d0 := ext_cell HX.out (c1 k hka).1
      have d1 := ext_cell HX.out (c1 k hka).2
      have hkI : (k : Int) < (n : Int) := by omega
      have b1' := (c1 k hka).2
      have HC1 := hid c1
      have hw := Fs.dck_ways m l k hka
      rw [← HI.out] at hw
      have HUP := hid (fun j (hjl : j < l.length) (hj : k = j + 1) => (show Fs.notUp (l.take k) l[k] = !Cel.tless l[j].1 l[k].1 by rw [Fs.tless_names]; subst hj; exact Fs.notUp_succ l j hjl l[j + 1]))
      have HTL := hid (fun j (hj : j < l.length) wx => textLess_any l[j].1 l[k].1 wx (HSZ.out _ (List.getElem_mem hj)) (HSZ.out _ (List.getElem_mem hka)))
      have HNC := hid (fun wx => nameCheck_any l[k].1 wx (HSZ.out _ (List.getElem_mem hka)))
      have HNM := hid (fun j (hj : j < l.length) (hjk : j < k) (h : l[j].2 = l[k].2) => (show Fs.nmd (l.take k) l[k].2 = true from Fs.nmd_at (k := j) (by rw [List.length_take]; omega) (by rw [List.getElem_take]; exact h)))
      have HNN := hid (fun (h : ∀ j (hj : j < l.length), j < k → l[j].2 ≠ l[k].2) => (show Fs.nmd (l.take k) l[k].2 = false from Fs.nmd_no fun j hj => by
        rw [List.length_take] at hj
        rw [List.getElem_take]; exact h j (by omega) (by omega)))
      clear c1
      generalize l[k] = x at *
      clear hka
      obtain ⟨s, node⟩ := x
      simp only at d0 d1 b1' hw HUP HTL HNM HNN HNC
      generalize hnm : Nm.nm s.data.toList = q at *
      cases q with
      | false =>
        have HV := hid (show R = 1 by
          rcases hw with ⟨_, h⟩ | ⟨h, _⟩ | ⟨h, _⟩ | ⟨h, _⟩ | ⟨h, _⟩ | ⟨h, _⟩
          · exact h
          all_goals cases h)
        clear hw hnm HUP HTL HNM HNN
        go_wp2_with (go_at_call 96; refine (HNC.out _).mono ?_; rintro e w1 ⟨rfl, rfl⟩)
        go_returns
        exact ⟨by rw [HV.out]; rfl, HX.out⟩
      | true =>
        have HW := hid hw
        clear hw hnm
        by_cases hk0 : k = 0
        · have hup : Fs.notUp (l.take k) (s, node) = false := by rw [hk0]; rfl
          have hk0I : (k : Int) ≤ 0 := by omega
          have hd1 : decide ((0 : Int) < (k : Int)) = false := decide_eq_false (by omega)
          have hd2 : decide (0 < k) = false := decide_eq_false (by omega)
          clear hk0
          go_wp2_with (go_at_call 96; refine (HNC.out _).mono ?_; rintro e w1 ⟨rfl, rfl⟩)
          go_quiet (fail)
          clear d0
          have HUPF := hid hup
          by_cases h3 : node < 0
          · have HV := hid (show R = 3 by
              rcases HW.out with ⟨h, _⟩ | ⟨_, h, _⟩ | ⟨_, _, _, h⟩ | ⟨_, _, h, _⟩ | ⟨_, _, h, _⟩ | ⟨_, _, h, _⟩
              · cases h
              · rw [HUPF.out] at h; cases h
              · exact h
              all_goals omega)
            clear hup
            go_wp2
            go_returns
            exact ⟨by rw [HV.out]; rfl, HX.out.draws _⟩
          by_cases h4 : m ≤ node
          · have HV := hid (show R = 3 by
              rcases HW.out with ⟨h, _⟩ | ⟨_, h, _⟩ | ⟨_, _, h, _⟩ | ⟨_, _, _, _, h⟩ | ⟨_, _, _, h, _⟩ | ⟨_, _, _, h, _⟩
              · cases h
              · rw [HUPF.out] at h; cases h
              · omega
              · exact h
              all_goals omega)
            have h3' : 0 ≤ node := by omega
            clear hup
            go_wp2
            go_returns
            exact ⟨by rw [HV.out]; rfl, HX.out.draws _⟩
          have H3 := hid h3
          have H4 := hid h4
          have h3' : 0 ≤ node := by omega
          have h4' : node < m := by omega
          clear hup h3 h4
          go_wp2
          go_loopw [6] (fun c wr2 => ∃ i : Nat, i ≤ k ∧ c = .int .i64 i ∧ Hid (∀ t (ht : t < l.length), t < i → l[t].2 ≠ node) ∧ Hid (Ext w wr2)) (fun c _ => k - (intOf c).toNat)
          case atStart => exact ⟨0, Nat.zero_le _, rfl, hid (fun t ht h => absurd h (Nat.not_lt_zero _)), hid (HX.out.draws _)⟩
          case round =>
            obtain ⟨i, hi, rfl, HJ, HZ⟩ := hrel
            by_cases hlti : i < k
            · have hil : i < l.length := by rw [HN.out]; omega
              have hiI : (i : Int) < (n : Int) := by omega
              have hiK : (i : Int) < ((k : Nat) : Int) := by omega
              have f1 := ext_cell HZ.out (HC1.out i hil).2
              have g1 := ext_cell HZ.out b1'
              by_cases he : l[i].2 = node
              · have HV := hid (show R = 6 by
                  have hq := HNM.out i hil hlti he
                  rcases HW.out with ⟨h, _⟩ | ⟨_, h, _⟩ | ⟨_, _, h, _⟩ | ⟨_, _, _, h, _⟩ | ⟨_, _, _, _, _, h⟩ | ⟨_, _, _, _, h, _⟩
                  · cases h
                  · rw [HUPF.out] at h; cases h
                  · omega
                  · omega
                  · exact h
                  · rw [hq] at h; cases h)
                rw [he] at f1
                clear he hil
                go_wp2_with fail
                go_quiet (fail)
                go_wp2
                go_returns
                exact ⟨by rw [HV.out]; rfl, HZ.out.draws _⟩
              · have HJ2 := hid (show ∀ t (ht : t < l.length), t < i + 1 → l[t].2 ≠ node from fun t ht h => by
                  by_cases hti : t = i
                  · subst hti; exact he
                  · exact HJ.out t ht (by omega))
                have e0 : (l[i].2 == node) = false := beq_eq_false_iff_ne.2 he
                generalize l[i].2 = y at *
                clear he hil
                go_wp2_with fail
                go_quiet (fail)
                go_wp2
                go_roundw
                case rel => exact ⟨i + 1, by omega, by go_num, HJ2, hid (HZ.out.draws _)⟩
                case measure => simp [intOf]; omega
            · obtain rfl : k = i := by omega
              have HI2 := hid (show R = Fs.dck m (l.take (k + 1)) (l.drop (k + 1)) by
                have hq := HNN.out (fun t ht h => HJ.out t ht h)
                rcases HW.out with ⟨h, _⟩ | ⟨_, h, _⟩ | ⟨_, _, h, _⟩ | ⟨_, _, _, h, _⟩ | ⟨_, _, _, _, h, _⟩ | ⟨_, _, _, _, _, h⟩
                · cases h
                · rw [HUPF.out] at h; cases h
                · omega
                · omega
                · rw [hq] at h; cases h
                · exact h)
              clear hlti
              go_wp2
              go_roundw
              case rel => exact ⟨k + 1, by omega, by go_num, HI2, HZ⟩
              case measure => simp [intOf]; omega
        · obtain ⟨j, hj⟩ : ∃ j, k = j + 1 := ⟨k - 1, by omega⟩
          have hk0I : (0 : Int) < (k : Int) := by omega
          have hd1 : decide ((0 : Int) < (k : Int)) = true := decide_eq_true (by omega)
          have hd2 : decide (0 < k) = true := decide_eq_true (by omega)
          have hjl : j < l.length := by rw [HN.out]; omega
          have hjI : (j : Int) < (n : Int) := by omega
          have hj1 : (k : Int) - 1 = (j : Int) := by omega
          have hw1 : IntKind.i64.wrap ((k : Int) - 1) = (j : Int) := by rw [IntKind.wrap_i64]; omega
          have hw2 : IntKind.i64.wrap (j : Int) = (j : Int) := by rw [IntKind.wrap_i64]; omega
          have hup0 := HUP.out j hjl hj
          have HTJ := hid (HTL.out j hjl)
          have dj := cell_regrown (ext_cell HX.out (HC1.out j hjl).1)
          have d0r := cell_regrown d0
          have HK0 := hid hk0
          clear hk0 hj
          generalize hy : Cel.tless (l[j]'hjl).1 s = q at *
          generalize (l[j]'hjl).1 = y at *
          cases q with
          | false =>
            have HV := hid (show R = 4 by
              rcases HW.out with ⟨h, _⟩ | ⟨_, _, h⟩ | ⟨_, h, _⟩ | ⟨_, h, _⟩ | ⟨_, h, _⟩ | ⟨_, h, _⟩
              · cases h
              · exact h
              all_goals (rw [hup0] at h; cases h))
            clear hup0 hy
            go_wp2_with (go_at_call 96; refine (HNC.out _).mono ?_; rintro e w1 ⟨rfl, rfl⟩)
            refine wp_region_quiet_below (by kernel_rfl) (by kernel_rfl) ?_
            repeat (go_big_quiet_step ((go_at_call 97; exact Gives.quiet HTJ.out _ _ _)))
            refine wpQuiet_nil ?_
            intro w9 hw9
            obtain ⟨p, rfl⟩ := hw9
            go_wp2
            go_returns
            exact ⟨by rw [HV.out]; rfl, HX.out.then (ext_regrown _ p)⟩
          | true =>
            have hup : Fs.notUp (l.take k) (s, node) = false := hup0
            clear hup0 hy
            go_wp2_with (go_at_call 96; refine (HNC.out _).mono ?_; rintro e w1 ⟨rfl, rfl⟩)
            refine wp_region_quiet_below (by kernel_rfl) (by kernel_rfl) ?_
            repeat (go_big_quiet_step ((go_at_call 97; exact Gives.quiet HTJ.out _ _ _)))
            refine wpQuiet_nil ?_
            intro w9 hw9
            obtain ⟨p, hp9⟩ := hw9
            have hwy : Ext w w9 := by rw [hp9]; exact HX.out.then (ext_regrown _ p)
            have HY := hid hwy
            clear hwy hp9 d0r dj d0 d1
            have d1 := ext_cell HY.out b1'
            have HUPF := hid hup
            by_cases h3 : node < 0
            · have HV := hid (show R = 3 by
                rcases HW.out with ⟨h, _⟩ | ⟨_, h, _⟩ | ⟨_, _, _, h⟩ | ⟨_, _, h, _⟩ | ⟨_, _, h, _⟩ | ⟨_, _, h, _⟩
                · cases h
                · rw [HUPF.out] at h; cases h
                · exact h
                all_goals omega)
              clear hup
              go_wp2
              go_returns
              exact ⟨by rw [HV.out]; rfl, HY.out⟩
            by_cases h4 : m ≤ node
            · have HV := hid (show R = 3 by
                rcases HW.out with ⟨h, _⟩ | ⟨_, h, _⟩ | ⟨_, _, h, _⟩ | ⟨_, _, _, _, h⟩ | ⟨_, _, _, h, _⟩ | ⟨_, _, _, h, _⟩
                · cases h
                · rw [HUPF.out] at h; cases h
                · omega
                · exact h
                all_goals omega)
              have h3' : 0 ≤ node := by omega
              clear hup
              go_wp2
              go_returns
              exact ⟨by rw [HV.out]; rfl, HY.out⟩
            have H3 := hid h3
            have H4 := hid h4
            have h3' : 0 ≤ node := by omega
            have h4' : node < m := by omega
            clear hup h3 h4
            go_wp2
            go_loopw [6] (fun c wr2 => ∃ i : Nat, i ≤ k ∧ c = .int .i64 i ∧ Hid (∀ t (ht : t < l.length), t < i → l[t].2 ≠ node) ∧ Hid (Ext w wr2)) (fun c _ => k - (intOf c).toNat)
            case atStart => exact ⟨0, Nat.zero_le _, rfl, hid (fun t ht h => absurd h (Nat.not_lt_zero _)), HY⟩
            case round =>
              obtain ⟨i, hi, rfl, HJ, HZ⟩ := hrel
              by_cases hlti : i < k
              · have hil : i < l.length := by rw [HN.out]; omega
                have hiI : (i : Int) < (n : Int) := by omega
                have hiK : (i : Int) < ((k : Nat) : Int) := by omega
                have f1 := ext_cell HZ.out (HC1.out i hil).2
                have g1 := ext_cell HZ.out b1'
                by_cases he : l[i].2 = node
                · have HV := hid (show R = 6 by
                    have hq := HNM.out i hil hlti he
                    rcases HW.out with ⟨h, _⟩ | ⟨_, h, _⟩ | ⟨_, _, h, _⟩ | ⟨_, _, _, h, _⟩ | ⟨_, _, _, _, _, h⟩ | ⟨_, _, _, _, h, _⟩
                    · cases h
                    · rw [HUPF.out] at h; cases h
                    · omega
                    · omega
                    · exact h
                    · rw [hq] at h; cases h)
                  rw [he] at f1
                  clear he hil
                  go_wp2_with fail
                  go_quiet (fail)
                  go_wp2
                  go_returns
                  exact ⟨by rw [HV.out]; rfl, HZ.out.draws _⟩
                · have HJ2 := hid (show ∀ t (ht : t < l.length), t < i + 1 → l[t].2 ≠ node from fun t ht h => by
                    by_cases hti : t = i
                    · subst hti; exact he
                    · exact HJ.out t ht (by omega))
                  have e0 : (l[i].2 == node) = false := beq_eq_false_iff_ne.2 he
                  generalize l[i].2 = y at *
                  clear he hil
                  go_wp2_with fail
                  go_quiet (fail)
                  go_wp2
                  go_roundw
                  case rel => exact ⟨i + 1, by omega, by go_num, HJ2, hid (HZ.out.draws _)⟩
                  case measure => simp [intOf]; omega
              · obtain rfl : k = i := by omega
                have HI2 := hid (show R = Fs.dck m (l.take (k + 1)) (l.drop (k + 1)) by
                  have hq := HNN.out (fun t ht h => HJ.out t ht h)
                  rcases HW.out with ⟨h, _⟩ | ⟨_, h, _⟩ | ⟨_, _, h, _⟩ | ⟨_, _, _, h, _⟩ | ⟨_, _, _, _, h, _⟩ | ⟨_, _, _, _, _, h⟩
                  · cases h
                  · rw [HUPF.out] at h; cases h
                  · omega
                  · omega
                  · rw [hq] at h; cases h
                  · exact h)
                clear hlti
                go_wp2
                go_roundw
                case rel => exact ⟨k + 1, by omega, by go_num, HI2, HZ⟩
                case measure => simp [intOf]; omega
    · obtain rfl : k = n := by omega
      have HE := hid (show R = 0 by rw [HI.out, List.drop_of_length_le (by rw [HN.out]; exact Nat.le_refl _)]; rfl)
      clear hlt
      go_wp2
      go_returns
      exact ⟨by rw [HE.out]; rfl, HX.out⟩
end Go.Proofs.YtolhifnlahllnaaDoor
