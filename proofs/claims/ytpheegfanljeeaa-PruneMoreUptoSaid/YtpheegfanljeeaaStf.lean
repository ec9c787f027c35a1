/- Stats: KnownCheck: walk. -/
import Derived.Test.YtpheegfanljeeaaSte
namespace Hy.Cel
theorem alone_size {kind : Int} {c : Cel} (h : alone kind c = 0) : c.2.2.size ≤ 16 := by
  unfold alone at h
  split at h
  · cases h
  · split at h
    · cases h
    · split at h
      · cases h
      · omega
end Hy.Cel
namespace Go.Proofs.Ytpheegfanljeeaa
open Go.RowKit Hy
set_option maxHeartbeats 16000000 in
theorem knownCheck_any (kind : Int) (s : Sta) (w : World) :
    Calls Try.prog 53 #[.int .i64 kind, staV s] w fun e w' => e = .returned (.int .i64 (Cel.sck kind s : Nat)) ∧ Ext w w' := by
  have HA1 := hid (cellCheck_any kind s.2.2.1)
  have HA2 := hid (cellCheck_any kind s.2.2.2)
  have HL := hid (fun (h1 : Cel.alone kind s.2.2.1 = 0) (h2 : Cel.alone kind s.2.2.2 = 0) => fun w => cellLess_any s.2.2.2 s.2.2.1 w (by have := Cel.alone_size h2; omega) (by have := Cel.alone_size h1; omega))
  obtain ⟨R, hR⟩ : ∃ R, R = Cel.sck kind s := ⟨_, rfl⟩
  rw [← hR]
  have HR := hid (show R = if kind ≠ 1 ∧ kind ≠ 2 then 7 else if s.1 < 0 ∨ 128 < s.1 ∨ s.2.1 < 0 ∨ s.1 < s.2.1 then 3 else if Cel.alone kind s.2.2.1 ≠ 0 then Cel.alone kind s.2.2.1 else if Cel.alone kind s.2.2.2 ≠ 0 then Cel.alone kind s.2.2.2
  else if ((s.2.2.1.1 == 0) != (s.2.1 == s.1)) || ((s.2.2.2.1 == 0) != (s.2.1 == s.1)) || Cel.less s.2.2.2 s.2.2.1 then 4 else 0 by rw [hR]; unfold Cel.sck; rfl)
  have ha1 := Cel.alone_le kind s.2.2.1
  have ha2 := Cel.alone_le kind s.2.2.2
  obtain ⟨E1, hE1⟩ : ∃ E, E = Cel.alone kind s.2.2.1 := ⟨_, rfl⟩
  obtain ⟨E2, hE2⟩ : ∃ E, E = Cel.alone kind s.2.2.2 := ⟨_, rfl⟩
  obtain ⟨L, hL⟩ : ∃ L, L = Cel.less s.2.2.2 s.2.2.1 := ⟨_, rfl⟩
  rw [← hE1] at HA1 HR ha1 HL
  rw [← hE2] at HA2 HR ha2 HL
  rw [← hL] at HL HR
  clear hR hE1 hE2 hL
  obtain ⟨rows, nulls, ⟨lk, ln, ls⟩, ⟨mk, mn, ms⟩⟩ := s
  simp only at HR HA1 HA2 HL
  have HX0 := hid (Ext.new (ext_refl w) (.cells #[.int .i64 rows, .int .i64 nulls, .int .i64 lk, .int .u64 (ln : Int), .string ls, .int .i64 mk, .int .u64 (mn : Int), .string ms] 45))
  have HB0 := hid (Blk.new w 45 #[.int .i64 rows, .int .i64 nulls, .int .i64 lk, .int .u64 (ln : Int), .string ls, .int .i64 mk, .int .u64 (mn : Int), .string ms])
  by_cases hk : kind = 1 ∨ kind = 2
  · by_cases hr : rows < 0 ∨ 128 < rows ∨ nulls < 0 ∨ rows < nulls
    · have HE := hid (show R = 3 by rw [HR.out, if_neg (by omega), if_pos hr])
      have c0 : ((rows < 0) ∨ (0 ≤ rows ∧ 128 < rows)) ∨ ((0 ≤ rows ∧ rows ≤ 128 ∧ nulls < 0) ∨ (0 ≤ rows ∧ rows ≤ 128 ∧ 0 ≤ nulls ∧ rows < nulls)) := by omega
      clear HR HA1 HA2 HL ha1 ha2 hr
      have K1 : ((kind != 1) = false) ∨ ((kind != 1) = true ∧ (kind != 2) = false) := by
        rcases hk with h | h
        · left; rw [h]; rfl
        · right; rw [h]; exact ⟨rfl, rfl⟩
      clear hk
      rcases K1 with g1 | ⟨g1, g2⟩
      all_goals rcases c0 with (c | ⟨c, c'⟩) | (⟨c, c', c''⟩ | ⟨c, c', c'', c3⟩)
      all_goals (
        go_enter Try.func53, Try.ntmps53
        go_wp2
        go_returns
        exact ⟨by rw [HE.out]; rfl, HX0.out⟩)
    · have hr' : 0 ≤ rows ∧ rows ≤ 128 ∧ 0 ≤ nulls ∧ nulls ≤ rows := by omega
      obtain ⟨r0, r1, r2, r3⟩ := hr'
      have HR2 := hid (show R = _ by rw [HR.out, if_neg (by omega), if_neg hr])
      clear HR hr
      by_cases h1 : E1 = 0
      · subst h1
        by_cases h2 : E2 = 0
        · subst h2
          have HR3 := hid (show R = _ by rw [HR2.out, if_neg (by simp), if_neg (by simp)])
          have HLL := hid (HL.out rfl rfl)
          clear HR2 ha1 ha2 HL
          have K1 : ((kind != 1) = false) ∨ ((kind != 1) = true ∧ (kind != 2) = false) := by
            rcases hk with h | h
            · left; rw [h]; rfl
            · right; rw [h]; exact ⟨rfl, rfl⟩
          clear hk
          rcases K1 with g1 | ⟨g1, g2⟩
          all_goals (
            obtain ⟨z1, hz1⟩ : ∃ b, (lk == 0) = b := ⟨_, rfl⟩
            obtain ⟨z2, hz2⟩ : ∃ b, (mk == 0) = b := ⟨_, rfl⟩
            obtain ⟨nn, hnn⟩ : ∃ b, (nulls == rows) = b := ⟨_, rfl⟩
            rw [hz1, hz2, hnn] at HR3
            have HNN := hid hnn
            have hz1n : (lk != 0) = !z1 := by rw [← hz1]; rfl
            have hz2n : (mk != 0) = !z2 := by rw [← hz2]; rfl
            clear hnn
            go_enter Try.func53, Try.ntmps53
            go_wp2_with fail
            refine (HA1.out _).mono ?_
            rintro e w2 ⟨rfl, hx⟩
            replace HB0 := hid (HB0.out.keep hx)
            replace HX0 := hid (HX0.out.then hx)
            clear hx
            try clear p0 p1 p2 p3 p4 p5 p6 p7
            obtain ⟨⟨p0, p1, p2, p3⟩, p4, p5, p6, p7⟩ := HB0.out.c8
            go_wp2_with fail
            refine (HA2.out _).mono ?_
            rintro e w3 ⟨rfl, hx⟩
            replace HB0 := hid (HB0.out.keep hx)
            replace HX0 := hid (HX0.out.then hx)
            clear hx
            try clear p0 p1 p2 p3 p4 p5 p6 p7
            obtain ⟨⟨p0, p1, p2, p3⟩, p4, p5, p6, p7⟩ := HB0.out.c8
            have hlt : decide (nulls < rows) = !(nulls == rows) := by
              by_cases e : nulls = rows
              · simp [e]
              · have e1 : nulls < rows := by omega
                simp [e, e1]
            have hnn := HNN.out
            rw [hnn] at hlt
            cases nn with
            | true =>
              simp only [Bool.not_true] at hlt
              cases z1 with
              | false =>
                simp only [Bool.not_false] at hz1n
                have HE := hid (show R = 4 by rw [HR3.out]; rfl)
                go_wp2
                go_returns
                exact ⟨by rw [HE.out]; rfl, HX0.out⟩
              | true =>
                simp only [Bool.not_true] at hz1n
                cases z2 with
                | false =>
                  simp only [Bool.not_false] at hz2n
                  have HE := hid (show R = 4 by rw [HR3.out]; rfl)
                  go_wp2
                  go_returns
                  exact ⟨by rw [HE.out]; rfl, HX0.out⟩
                | true =>
                  simp only [Bool.not_true] at hz2n
                  have HE := hid (show R = if L then 4 else 0 by rw [HR3.out]; rfl)
                  cases L
                  all_goals (
                    go_wp2_with (go_at_call 76; refine (HLL.out _).mono ?_; rintro e w4 ⟨rfl, hx⟩; replace HX0 := hid (HX0.out.then hx); clear hx)
                    go_returns
                    exact ⟨by rw [HE.out]; rfl, HX0.out⟩)
            | false =>
              simp only [Bool.not_false] at hlt
              cases z1 with
              | true =>
                simp only [Bool.not_true] at hz1n
                have HE := hid (show R = 4 by rw [HR3.out]; rfl)
                go_wp2
                go_returns
                exact ⟨by rw [HE.out]; rfl, HX0.out⟩
              | false =>
                simp only [Bool.not_false] at hz1n
                cases z2 with
                | true =>
                  simp only [Bool.not_true] at hz2n
                  have HE := hid (show R = 4 by rw [HR3.out]; rfl)
                  go_wp2
                  go_returns
                  exact ⟨by rw [HE.out]; rfl, HX0.out⟩
                | false =>
                  simp only [Bool.not_false] at hz2n
                  have HE := hid (show R = if L then 4 else 0 by rw [HR3.out]; rfl)
                  cases L
                  all_goals (
                    go_wp2_with (go_at_call 76; refine (HLL.out _).mono ?_; rintro e w4 ⟨rfl, hx⟩; replace HX0 := hid (HX0.out.then hx); clear hx)
                    go_returns
                    exact ⟨by rw [HE.out]; rfl, HX0.out⟩))
        · have HE := hid (show R = E2 by rw [HR2.out, if_neg (by simp), if_pos h2])
          have e1 : ((E2 : Int) == 0) = false := by rw [beq_eq_false_iff_ne]; omega
          have e2 : ((E2 : Int) != 0) = true := by simp; omega
          clear HR2 ha1 ha2 h2 HL
          have K1 : ((kind != 1) = false) ∨ ((kind != 1) = true ∧ (kind != 2) = false) := by
            rcases hk with h | h
            · left; rw [h]; rfl
            · right; rw [h]; exact ⟨rfl, rfl⟩
          clear hk
          rcases K1 with g1 | ⟨g1, g2⟩
          all_goals (
            go_enter Try.func53, Try.ntmps53
            go_wp2_with fail
            refine (HA1.out _).mono ?_
            rintro e w2 ⟨rfl, hx⟩
            replace HB0 := hid (HB0.out.keep hx)
            replace HX0 := hid (HX0.out.then hx)
            clear hx
            try clear p0 p1 p2 p3 p4 p5 p6 p7
            obtain ⟨⟨p0, p1, p2, p3⟩, p4, p5, p6, p7⟩ := HB0.out.c8
            go_wp2_with fail
            refine (HA2.out _).mono ?_
            rintro e w3 ⟨rfl, hx⟩
            replace HB0 := hid (HB0.out.keep hx)
            replace HX0 := hid (HX0.out.then hx)
            clear hx
            try clear p0 p1 p2 p3 p4 p5 p6 p7
            obtain ⟨⟨p0, p1, p2, p3⟩, p4, p5, p6, p7⟩ := HB0.out.c8
            go_wp2
            go_returns
            exact ⟨by rw [HE.out]; rfl, HX0.out⟩)
      · have HE := hid (show R = E1 by rw [HR2.out, if_pos h1])
        have e1 : ((E1 : Int) == 0) = false := by rw [beq_eq_false_iff_ne]; omega
        have e2 : ((E1 : Int) != 0) = true := by simp; omega
        clear HR2 ha1 ha2 h1 HL
        have K1 : ((kind != 1) = false) ∨ ((kind != 1) = true ∧ (kind != 2) = false) := by
          rcases hk with h | h
          · left; rw [h]; rfl
          · right; rw [h]; exact ⟨rfl, rfl⟩
        clear hk
        rcases K1 with g1 | ⟨g1, g2⟩
        all_goals (
          go_enter Try.func53, Try.ntmps53
          go_wp2_with fail
          refine (HA1.out _).mono ?_
          rintro e w2 ⟨rfl, hx⟩
          replace HB0 := hid (HB0.out.keep hx)
          replace HX0 := hid (HX0.out.then hx)
          clear hx
          try clear p0 p1 p2 p3 p4 p5 p6 p7
          obtain ⟨⟨p0, p1, p2, p3⟩, p4, p5, p6, p7⟩ := HB0.out.c8
          go_wp2
          go_returns
          exact ⟨by rw [HE.out]; rfl, HX0.out⟩)
  · have e1 : (kind != 1) = true := by simp; omega
    have e2 : (kind != 2) = true := by simp; omega
    have HE := hid (show R = 7 by rw [HR.out, if_pos (by omega)])
    clear HR HA1 HA2 HL ha1 ha2 hk
    go_enter Try.func53, Try.ntmps53
    go_wp2
    go_returns
    exact ⟨by rw [HE.out]; rfl, HX0.out⟩
end Go.Proofs.Ytpheegfanljeeaa
