/- Runs: Check: walk. -/
import Derived.Test.YtgobnpogmghgkaaRows
import Derived.Test.YtgobnpogmghgkaaRuc
namespace Go.Proofs.Ytgobnpogmghgkaa
open Go.RowKit Hy
set_option maxHeartbeats 1600000 in
theorem check_any (l : List Runs.Run) (A : Option Addr) (n cap : Nat) (w : World) (hn : l.length = n) (hr : Rd w A (rws l)) (hnl : n ≤ 140737488355328) :
    Calls Try.prog 28 #[.slice A n cap] w fun e w' => e = .returned (.int .i64 (Runs.chk none 0 l : Nat)) ∧ Ext w w' := by
  have HN := hid hn
  have HA := hid hr
  obtain ⟨R, hR⟩ : ∃ R, R = Runs.chk none 0 l := ⟨_, rfl⟩
  rw [← hR]
  have HR := hid (show R = Runs.chk (Runs.pv l 0) 0 (l.drop 0) by rw [Runs.pv_zero]; exact hR)
  clear hR hr hn
  go_enter Try.func28, Try.ntmps28
  go_wp2
  go_loopw [3, 4, 5, 8, 13, 22] (fun t _ _ c _ _ wr => ∃ (k : Nat) (s : Int), k ≤ n ∧ c = .int .i64 k ∧ t = .int .i64 s ∧ 0 ≤ s ∧ s ≤ 64 ∧ Hid (R = Runs.chk (Runs.pv l k) s (l.drop k)) ∧ Ext w wr) (fun _ _ _ c _ _ _ => n - (intOf c).toNat)
  case atStart => exact ⟨0, 0, Nat.zero_le _, rfl, rfl, by omega, by omega, HR, ext_refl _⟩
  case round =>
    obtain ⟨k, s, hk, rfl, rfl, hs0, hs1, HI, X⟩ := hrel
    by_cases hlt : k < n
    · have hka : k < l.length := by rw [HN.out]; exact hlt
      obtain ⟨b1, o1, e1, l1, c1⟩ := HA.out.runs k hka
      subst e1
      have dv := (X.cell (p := ⟨b1, o1 + k * 2, none⟩) l1).trans (c1 k hka).1
      have dn := (X.cell (p := ⟨b1, o1 + k * 2 + 1, none⟩) l1).trans (c1 k hka).2
      have HP := hid (fun j (hj : j < l.length) => (X.cell (p := ⟨b1, o1 + j * 2, none⟩) l1).trans (c1 j hj).1)
      have H3 := hid (fun h => Runs.chk_long (p := Runs.pv l k) (s := s) hka h)
      have H6 := hid (fun h h2 => Runs.chk_same (p := Runs.pv l k) (s := s) hka h h2)
      have H2 := hid (fun h h2 h3 => Runs.chk_many (p := Runs.pv l k) (s := s) hka h h2 h3)
      have H0 := hid (fun h h2 h3 => Runs.chk_next (p := Runs.pv l k) (s := s) hka h h2 h3)
      generalize l[k].1 = v at *
      generalize l[k].2 = N at *
      clear c1
      by_cases g1 : N < 1
      · have HE := hid (show R = 3 by rw [HI.out, H3.out (.inl g1)])
        clear H3 H6 H2 H0 HI HP hka
        go_wp2
        go_returns
        exact ⟨by rw [HE.out]; rfl, X.new _⟩
      · by_cases g2 : 64 < N
        · have HE := hid (show R = 3 by rw [HI.out, H3.out (.inr g2)])
          clear H3 H6 H2 H0 HI HP hka
          go_wp2
          go_returns
          exact ⟨by rw [HE.out]; rfl, X.new _⟩
        · have g12 : ¬ (N < 1 ∨ 64 < N) := by omega
          by_cases hk0 : k = 0
          · subst hk0
            have hne : Runs.pv l 0 ≠ some v := by rw [Runs.pv_zero]; simp
            have dv : wr.cell? ⟨b1, o1, none⟩ = some (.int .u64 (v : Int)) := by simpa using dv
            have dn : wr.cell? ⟨b1, o1 + 1, none⟩ = some (.int .i64 N) := by simpa using dn
            by_cases g3 : 64 < s + N
            · have HE := hid (show R = 2 by rw [HI.out, H2.out g12 hne g3])
              clear H3 H6 H2 H0 HI HP hka g12 hne
              go_wp2_with fail
              go_quiet (fail)
              go_wp2
              go_returns
              exact ⟨by rw [HE.out]; rfl, (X.new _).draws _⟩
            · have HE := hid (show R = _ by rw [HI.out, H0.out g12 hne g3])
              clear H3 H6 H2 H0 HI HP hka g12 hne
              go_wp2_with fail
              go_quiet (fail)
              go_wp2
              go_roundw
              case rel => exact ⟨0 + 1, s + N, by omega, by go_num, rfl, by omega, by omega, HE, (X.new _).draws _⟩
              case measure => simp [intOf]; omega
          · obtain ⟨j, rfl⟩ : ∃ j, k = j + 1 := ⟨k - 1, by omega⟩
            have hj : j < l.length := by omega
            have dp := HP.out j hj
            have hpv := Runs.pv_succ l j hj
            have dpn := fun o => ext_cell ((ext_refl wr).new o) dp
            generalize l[j].1 = u at *
            have dvn : (wr.alloc (.cells #[.int .u64 (v : Int), .int .i64 N] 54)).cell? ⟨wr.heap.size, 0, none⟩ = some (.int .u64 (v : Int)) := (Blk.new wr 54 #[.int .u64 (v : Int), .int .i64 N]).cell 0
            have dnn : (wr.alloc (.cells #[.int .u64 (v : Int), .int .i64 N] 54)).cell? ⟨wr.heap.size, 1, none⟩ = some (.int .i64 N) := (Blk.new wr 54 #[.int .u64 (v : Int), .int .i64 N]).cell 1
            by_cases guv : u = v
            · subst guv
              have HE := hid (show R = 6 by rw [HI.out, H6.out g12 hpv])
              clear H3 H6 H2 H0 HI HP hka g12 hpv hj hk0
              go_wp2_with fail
              go_quiet (fail)
              go_wp2
              go_returns
              exact ⟨by rw [HE.out]; rfl, (X.new _).draws _⟩
            · have hne : Runs.pv l (j + 1) ≠ some v := by rw [hpv]; simpa using guv
              have e1 : ((v : Int) == (u : Int)) = false := by rw [beq_eq_false_iff_ne]; omega
              have e2 : (v == u) = false := by rw [beq_eq_false_iff_ne]; omega
              by_cases g3 : 64 < s + N
              · have HE := hid (show R = 2 by rw [HI.out, H2.out g12 hne g3])
                clear H3 H6 H2 H0 HI HP hka g12 hpv hj hne hk0 guv
                go_wp2_with fail
                go_quiet (fail)
                go_wp2
                go_returns
                exact ⟨by rw [HE.out]; rfl, (X.new _).draws _⟩
              · have HE := hid (show R = _ by rw [HI.out, H0.out g12 hne g3])
                clear H3 H6 H2 H0 HI HP hka g12 hpv hj hne hk0 guv
                go_wp2_with fail
                go_quiet (fail)
                go_wp2
                go_roundw
                case rel => exact ⟨j + 1 + 1, s + N, by omega, by go_num, rfl, by omega, by omega, HE, (X.new _).draws _⟩
                case measure => simp [intOf]; omega
    · obtain rfl : k = n := by omega
      have HE := hid (show R = 0 by rw [HI.out, List.drop_of_length_le (by rw [HN.out]; exact Nat.le_refl _)]; rfl)
      go_wp2
      go_returns
      exact ⟨by rw [HE.out]; rfl, X⟩
end Go.Proofs.Ytgobnpogmghgkaa
