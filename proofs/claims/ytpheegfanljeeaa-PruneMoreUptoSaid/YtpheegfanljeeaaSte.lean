/- Stats: Check, KnownCheck: walks. -/
import Derived.Test.YtpheegfanljeeaaStd
namespace Hy.Cel
/-- what is wrong with what may be known -/
@[irreducible] def sck (kind : Int) (s : Sta) : Nat :=
  if kind ≠ 1 ∧ kind ≠ 2 then 7 else if s.1 < 0 ∨ 128 < s.1 ∨ s.2.1 < 0 ∨ s.1 < s.2.1 then 3 else if alone kind s.2.2.1 ≠ 0 then alone kind s.2.2.1 else if alone kind s.2.2.2 ≠ 0 then alone kind s.2.2.2
  else if ((s.2.2.1.1 == 0) != (s.2.1 == s.1)) || ((s.2.2.2.1 == 0) != (s.2.1 == s.1)) || less s.2.2.2 s.2.2.1 then 4 else 0
theorem sck_le (kind : Int) (s : Sta) : sck kind s ≤ 7 := by
  unfold sck
  have h1 := alone_le kind s.2.2.1
  have h2 := alone_le kind s.2.2.2
  (repeat' split) <;> omega
end Hy.Cel
namespace Go.Proofs.Ytpheegfanljeeaa
open Go.RowKit Hy
set_option maxHeartbeats 4000000 in
theorem statsCheck_any (kind : Int) (s : Sta) (w : World) :
    Calls Try.prog 51 #[.int .i64 kind, staV s] w fun e w' => e = .returned (.int .i64 (Cel.sck kind s : Nat)) ∧ Ext w w' := by
  have HKI := hid (kind_any kind)
  have HA1 := hid (alone_any kind s.2.2.1)
  have HA2 := hid (alone_any kind s.2.2.2)
  have HL := hid (less_any s.2.2.2 s.2.2.1)
  obtain ⟨R, hR⟩ : ∃ R, R = Cel.sck kind s := ⟨_, rfl⟩
  rw [← hR]
  have HR := hid (show R = if kind ≠ 1 ∧ kind ≠ 2 then 7 else if s.1 < 0 ∨ 128 < s.1 ∨ s.2.1 < 0 ∨ s.1 < s.2.1 then 3 else if Cel.alone kind s.2.2.1 ≠ 0 then Cel.alone kind s.2.2.1 else if Cel.alone kind s.2.2.2 ≠ 0 then Cel.alone kind s.2.2.2
  else if ((s.2.2.1.1 == 0) != (s.2.1 == s.1)) || ((s.2.2.2.1 == 0) != (s.2.1 == s.1)) || Cel.less s.2.2.2 s.2.2.1 then 4 else 0 by rw [hR]; unfold Cel.sck; rfl)
  have ha1 := Cel.alone_le kind s.2.2.1
  have ha2 := Cel.alone_le kind s.2.2.2
  obtain ⟨E1, hE1⟩ : ∃ E, E = Cel.alone kind s.2.2.1 := ⟨_, rfl⟩
  obtain ⟨E2, hE2⟩ : ∃ E, E = Cel.alone kind s.2.2.2 := ⟨_, rfl⟩
  obtain ⟨L, hL⟩ : ∃ L, L = Cel.less s.2.2.2 s.2.2.1 := ⟨_, rfl⟩
  rw [← hE1] at HA1 HR ha1
  rw [← hE2] at HA2 HR ha2
  rw [← hL] at HL HR
  clear hR hE1 hE2 hL
  obtain ⟨rows, nulls, ⟨lk, ln, ls⟩, ⟨mk, mn, ms⟩⟩ := s
  simp only at HR HA1 HA2 HL
  have HX0 := hid (Ext.new (ext_refl w) (.cells #[.int .i64 rows, .int .i64 nulls, .int .i64 lk, .int .u64 (ln : Int), .string ls, .int .i64 mk, .int .u64 (mn : Int), .string ms] 45))
  have hix0 := run_index_agg (P := Try.prog) (n := 2) (m := 3) Try.underlying105 Try.underlying37 rfl (by kernel_rfl) #[.int .i64 lk, .int .u64 (ln : Int), .string ls, .int .i64 mk, .int .u64 (mn : Int), .string ms] #[.int .i64 lk, .int .u64 (ln : Int), .string ls] .i64 0 (by decide) rfl
  have hix1 := run_index_agg (P := Try.prog) (n := 2) (m := 3) Try.underlying105 Try.underlying37 rfl (by kernel_rfl) #[.int .i64 lk, .int .u64 (ln : Int), .string ls, .int .i64 mk, .int .u64 (mn : Int), .string ms] #[.int .i64 mk, .int .u64 (mn : Int), .string ms] .i64 1 (by decide) rfl
  simp only [Int.cast_ofNat_Int] at hix0 hix1
  have HB0 := hid (Blk.new w 45 #[.int .i64 rows, .int .i64 nulls, .int .i64 lk, .int .u64 (ln : Int), .string ls, .int .i64 mk, .int .u64 (mn : Int), .string ms])
  by_cases hk : kind = 1 ∨ kind = 2
  · have hd : decide (kind = 1 ∨ kind = 2) = true := by simpa using hk
    rw [hd] at HKI
    by_cases hr : rows < 0 ∨ 128 < rows ∨ nulls < 0 ∨ rows < nulls
    · have HE := hid (show R = 3 by rw [HR.out, if_neg (by omega), if_pos hr])
      have c0 : ((rows < 0) ∨ (0 ≤ rows ∧ 128 < rows)) ∨ ((0 ≤ rows ∧ rows ≤ 128 ∧ nulls < 0) ∨ (0 ≤ rows ∧ rows ≤ 128 ∧ 0 ≤ nulls ∧ rows < nulls)) := by omega
      clear HR HA1 HA2 HL ha1 ha2 hk hd hr
      rcases c0 with (c | ⟨c, c'⟩) | (⟨c, c', c''⟩ | ⟨c, c', c'', c3⟩)
      all_goals (
        go_enter Try.func51, Try.ntmps51
        go_wp2_with (go_at_call 68; refine (HKI.out _).mono ?_; rintro e w1 ⟨rfl, rfl⟩)
        go_returns
        exact ⟨by rw [HE.out]; rfl, HX0.out⟩)
    · have hr' : 0 ≤ rows ∧ rows ≤ 128 ∧ 0 ≤ nulls ∧ nulls ≤ rows := by omega
      obtain ⟨r0, r1, r2, r3⟩ := hr'
      have HR2 := hid (show R = _ by rw [HR.out, if_neg (by omega), if_neg hr])
      clear HR hr hk hd
      by_cases h1 : E1 = 0
      · subst h1
        by_cases h2 : E2 = 0
        · subst h2
          have HR3 := hid (show R = _ by rw [HR2.out, if_neg (by simp), if_neg (by simp)])
          clear HR2 ha1 ha2
          obtain ⟨z1, hz1⟩ : ∃ b, (lk == 0) = b := ⟨_, rfl⟩
          obtain ⟨z2, hz2⟩ : ∃ b, (mk == 0) = b := ⟨_, rfl⟩
          obtain ⟨nn, hnn⟩ : ∃ b, (nulls == rows) = b := ⟨_, rfl⟩
          rw [hz1, hz2, hnn] at HR3
          go_enter Try.func51, Try.ntmps51
          go_wp2_with (go_at_call 68; refine (HKI.out _).mono ?_; rintro e w1 ⟨rfl, rfl⟩)
          refine wp_loop_rounds 3 ?_
          rw [rounds_succ]
          go_wp2_with fail
          refine (HA1.out _).mono ?_
          rintro e w2 ⟨rfl, hx⟩
          replace HB0 := hid (HB0.out.keep (Ext.then (Ext.new (ext_refl _) _) hx))
          replace HX0 := hid (HX0.out.then (Ext.then (Ext.new (ext_refl _) _) hx))
          clear hx
          try clear p0 p1 p2 p3 p4 p5 p6 p7
          obtain ⟨⟨p0, p1, p2, p3⟩, p4, p5, p6, p7⟩ := HB0.out.c8
          go_wp2_with fail
          rw [rounds_succ]
          go_wp2_with fail
          refine (HA2.out _).mono ?_
          rintro e w3 ⟨rfl, hx⟩
          replace HB0 := hid (HB0.out.keep (Ext.then (Ext.new (ext_refl _) _) hx))
          replace HX0 := hid (HX0.out.then (Ext.then (Ext.new (ext_refl _) _) hx))
          clear hx
          try clear p0 p1 p2 p3 p4 p5 p6 p7
          obtain ⟨⟨p0, p1, p2, p3⟩, p4, p5, p6, p7⟩ := HB0.out.c8
          go_wp2_with fail
          rw [rounds_succ]
          cases z1 <;> cases z2 <;> cases nn <;> cases L
          all_goals (
            have HE := hid HR3.out
            simp only [bne, Bool.not_true, Bool.not_false, Bool.or_true, Bool.or_false, Bool.false_or, BEq.beq, if_true, if_false, Bool.false_eq_true, decide_true, decide_false] at HE
            go_wp2_with (go_at_call 77; refine (HL.out _).mono ?_; rintro e w4 ⟨rfl, hx⟩; replace HX0 := hid (HX0.out.then hx); clear hx)
            go_returns
            exact ⟨by rw [HE.out]; rfl, HX0.out⟩)
        · have HE := hid (show R = E2 by rw [HR2.out, if_neg (by simp), if_pos h2])
          have e1 : ((E2 : Int) == 0) = false := by rw [beq_eq_false_iff_ne]; omega
          have e2 : ((E2 : Int) != 0) = true := by simp; omega
          clear HR2 ha1 ha2 h2
          go_enter Try.func51, Try.ntmps51
          go_wp2_with (go_at_call 68; refine (HKI.out _).mono ?_; rintro e w1 ⟨rfl, rfl⟩)
          refine wp_loop_rounds 3 ?_
          rw [rounds_succ]
          go_wp2_with fail
          refine (HA1.out _).mono ?_
          rintro e w2 ⟨rfl, hx⟩
          replace HB0 := hid (HB0.out.keep (Ext.then (Ext.new (ext_refl _) _) hx))
          replace HX0 := hid (HX0.out.then (Ext.then (Ext.new (ext_refl _) _) hx))
          clear hx
          try clear p0 p1 p2 p3 p4 p5 p6 p7
          obtain ⟨⟨p0, p1, p2, p3⟩, p4, p5, p6, p7⟩ := HB0.out.c8
          go_wp2_with fail
          rw [rounds_succ]
          go_wp2_with fail
          refine (HA2.out _).mono ?_
          rintro e w3 ⟨rfl, hx⟩
          replace HB0 := hid (HB0.out.keep (Ext.then (Ext.new (ext_refl _) _) hx))
          replace HX0 := hid (HX0.out.then (Ext.then (Ext.new (ext_refl _) _) hx))
          clear hx
          try clear p0 p1 p2 p3 p4 p5 p6 p7
          obtain ⟨⟨p0, p1, p2, p3⟩, p4, p5, p6, p7⟩ := HB0.out.c8
          go_wp2
          go_returns
          exact ⟨by rw [HE.out]; rfl, HX0.out⟩
      · have HE := hid (show R = E1 by rw [HR2.out, if_pos h1])
        have e1 : ((E1 : Int) == 0) = false := by rw [beq_eq_false_iff_ne]; omega
        have e2 : ((E1 : Int) != 0) = true := by simp; omega
        clear HR2 ha1 ha2 h1
        go_enter Try.func51, Try.ntmps51
        go_wp2_with (go_at_call 68; refine (HKI.out _).mono ?_; rintro e w1 ⟨rfl, rfl⟩)
        refine wp_loop_rounds 3 ?_
        rw [rounds_succ]
        go_wp2_with fail
        refine (HA1.out _).mono ?_
        rintro e w2 ⟨rfl, hx⟩
        replace HB0 := hid (HB0.out.keep (Ext.then (Ext.new (ext_refl _) _) hx))
        replace HX0 := hid (HX0.out.then (Ext.then (Ext.new (ext_refl _) _) hx))
        clear hx
        try clear p0 p1 p2 p3 p4 p5 p6 p7
        obtain ⟨⟨p0, p1, p2, p3⟩, p4, p5, p6, p7⟩ := HB0.out.c8
        go_wp2
        go_returns
        exact ⟨by rw [HE.out]; rfl, HX0.out⟩
  · have hd : decide (kind = 1 ∨ kind = 2) = false := by simpa using hk
    rw [hd] at HKI
    have HE := hid (show R = 7 by rw [HR.out, if_pos (by omega)])
    clear HR HA1 HA2 HL ha1 ha2 hk hd
    go_enter Try.func51, Try.ntmps51
    go_wp2_with (go_at_call 68; refine (HKI.out _).mono ?_; rintro e w1 ⟨rfl, rfl⟩)
    go_returns
    exact ⟨by rw [HE.out]; rfl, HX0.out⟩
end Go.Proofs.Ytpheegfanljeeaa
