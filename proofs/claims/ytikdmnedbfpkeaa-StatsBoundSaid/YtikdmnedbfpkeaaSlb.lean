/- StatsBound: the walk. -/
import Derived.Test.YtikdmnedbfpkeaaStm
import Derived.Test.YtikdmnedbfpkeaaStr
import Derived.Test.YtikdmnedbfpkeaaCeq
namespace Hy.Cel
def cel_eq (a b : Cel) : Bool := decide (a = b)
theorem any_yes (m : Cel) (l : List Cel) (k : Nat) (h : k < l.length) (hc : l[k].1 ≠ 0) : ((dense (l.take (k + 1))).any fun c => decide (c = m)) = (((dense (l.take k)).any fun c => decide (c = m)) || decide (l[k] = m)) := by
  rw [dense_yes l k h hc]; simp
end Hy.Cel
namespace Go.Proofs.Ytikdmnedbfpkeaa
open Go.RowKit Hy
set_option maxHeartbeats 4000000 in
theorem statsBound_yes (kind : Int) (l : List Cel) (x : Sta) (A : Option Addr) (n cap : Nat) (w : World) (hn : l.length = n) (hr : Rd w A (cls l)) (hnl : n ≤ 140737488355328)
    (GO : ∀ w', Ext w w' → Calls Try.prog 13 #[.int .i64 kind, .slice A n cap] w' fun e w'' => e = .returned (.tuple #[staV x, .int .i64 0]) ∧ Ext w' w'')
    (GC : Gives Try.prog 17 #[.int .i64 kind, staV x] (.int .i64 0)) (hx1 : x.1 = n) (hx2 : x.2.1 = (n : Int) - (Cel.dense l).length)
    (HB : ∀ c ∈ l, c.1 ≠ 0 → Cel.less c x.2.2.1 = false ∧ Cel.less x.2.2.2 c = false)
    (h5 : ((Cel.dense l).any fun c => decide (c = x.2.2.1)) = decide (0 < (Cel.dense l).length)) (h6 : ((Cel.dense l).any fun c => decide (c = x.2.2.2)) = decide (0 < (Cel.dense l).length)) :
    Calls Try.prog 7 #[.int .i64 kind, .slice A n cap] w fun e w' => e = .returned (.bool true) ∧ Ext w w' := by
  obtain ⟨xr, xn, ⟨xk, xu, xs⟩, xm, xv, xt⟩ := x
  dsimp only [staV] at GO GC hx1 hx2 HB h5 h6
  obtain rfl := hx1
  obtain ⟨m1, hm1⟩ : ∃ m : Cel, m = (xk, xu, xs) := ⟨_, rfl⟩
  obtain ⟨m2, hm2⟩ : ∃ m : Cel, m = (xm, xv, xt) := ⟨_, rfl⟩
  rw [← hm1] at h5 HB; rw [← hm2] at h6 HB
  obtain ⟨d, hd⟩ : ∃ d, d = (Cel.dense l).length := ⟨_, rfl⟩
  have hdl : d ≤ n := by rw [hd, ← hn]; exact Cel.dense_len l
  have hx2' : xn = (n : Int) - (d : Int) := by rw [hd]; exact hx2
  subst hx2'
  rw [← hd] at h5 h6
  have H5 := hid h5; have H6 := hid h6; have HN := hid hn; have HBB := hid HB; have HD := hid hd; have HM1 := hid hm1; have HM2 := hid hm2; have HRR := hid hr
  clear h5 h6 hn HB hd hm1 hm2 hr hx2
  have X := hid (ext_refl w)
  go_enter Try.func7, Try.ntmps7
  go_wp2_with fail
  refine Calls.mono (GO _ X.out) ?_
  rintro e w1 ⟨rfl, hx⟩
  replace X := hid (X.out.then hx)
  clear hx
  replace X := hid (Ext.new X.out (.cells #[.int .i64 n, .int .i64 ((n : Int) - (d : Int)), .int .i64 xk, .int .u64 (xu : Nat), .string xs, .int .i64 xm, .int .u64 (xv : Nat), .string xt] 27))
  have Bx := hid (Blk.new w1 27 #[.int .i64 n, .int .i64 ((n : Int) - (d : Int)), .int .i64 xk, .int .u64 (xu : Nat), .string xs, .int .i64 xm, .int .u64 (xv : Nat), .string xt])
  go_wp2_with fail
  refine Calls.mono (statsBegun_any _) ?_
  rintro e w2 ⟨rfl, hx⟩
  replace X := hid (X.out.then hx)
  replace Bx := hid (Bx.out.keep hx)
  clear hx
  go_wp2
  go_loopw [7, 8, 9, 10] (fun p q c i wr => ∃ k : Nat, k ≤ n ∧ i = .int .i64 k ∧ c = .int .i64 ((Cel.dense (l.take k)).length : Nat) ∧ p = .bool ((Cel.dense (l.take k)).any fun c => decide (c = m1)) ∧ q = .bool ((Cel.dense (l.take k)).any fun c => decide (c = m2)) ∧ Ext w2 wr) (fun _ _ _ i _ => n - (intOf i).toNat)
  case atStart => exact ⟨0, Nat.zero_le _, rfl, rfl, rfl, rfl, ext_refl _⟩
  case round =>
    obtain ⟨k, hk, rfl, rfl, rfl, rfl, Xr⟩ := hrel
    by_cases hlt : k < n
    · have hka : k < l.length := by rw [HN.out]; exact hlt
      obtain ⟨b1, o1, e1, l1, c1⟩ := HRR.out.cels k hka
      subst e1
      obtain ⟨ci, hci⟩ : ∃ ci, ci = l[k] := ⟨_, rfl⟩
      have HCI := c1 k hka
      rw [← hci] at HCI
      have hd1 : (Cel.dense (l.take k)).length ≤ k := by have := Cel.dense_len (l.take k); rw [List.length_take] at this; omega
      have XX := X.out.then Xr
      have d0 := (XX.cell (p := ⟨b1, o1 + k * 3, none⟩) l1).trans HCI.1
      have d1 := (XX.cell (p := ⟨b1, o1 + k * 3 + 1, none⟩) l1).trans HCI.2.1
      have d2 := (XX.cell (p := ⟨b1, o1 + k * 3 + 2, none⟩) l1).trans HCI.2.2
      have BX := Bx.out.keep Xr
      by_cases hz : ci.1 = 0
      · have HE := hid (Cel.dense_no l k hka (by rw [← hci]; exact hz))
        obtain ⟨k1, n1, s1⟩ := ci
        obtain rfl : k1 = 0 := hz
        clear hka c1 HCI hci l1 XX
        have HXr := hid Xr
        clear Xr
        go_wp2
        go_roundw
        case rel => exact ⟨k + 1, by omega, by go_num, by rw [HE.out], by rw [HE.out], by rw [HE.out], HXr.out⟩
        case measure => simp [intOf]; omega
      · have HE := hid (Cel.dense_yes l k hka (by rw [← hci]; exact hz))
        have HA1 := hid (Cel.any_yes m1 l k hka (by rw [← hci]; exact hz))
        have HA2 := hid (Cel.any_yes m2 l k hka (by rw [← hci]; exact hz))
        obtain ⟨hb1, hb2⟩ := HBB.out l[k] (List.getElem_mem hka) (by rw [← hci]; exact hz)
        rw [← hci, HM1.out] at hb1; rw [← hci, HM2.out] at hb2
        rw [← hci] at HA1 HA2
        have G1 : Gives Try.prog 21 #[celV ci, celV (xk, xu, xs)] (.bool false) := fun w => by have h := less_any ci (xk, xu, xs) w; rw [hb1] at h; exact h
        have G2 : Gives Try.prog 21 #[celV (xm, xv, xt), celV ci] (.bool false) := fun w => by have h := less_any (xm, xv, xt) ci w; rw [hb2] at h; exact h
        obtain ⟨k1, n1, s1⟩ := ci
        have HQ1 := fun w => cel_eql k1 xk n1 xu s1 xs w
        have HQ2 := fun w => cel_eql k1 xm n1 xv s1 xt w
        rw [HM1.out] at HA1
        rw [HM2.out] at HA2
        obtain ⟨q1, hq1⟩ : ∃ q, q = decide (((k1, n1, s1) : Cel) = (xk, xu, xs)) := ⟨_, rfl⟩
        obtain ⟨q2, hq2⟩ : ∃ q, q = decide (((k1, n1, s1) : Cel) = (xm, xv, xt)) := ⟨_, rfl⟩
        rw [← hq1] at HQ1 HA1
        rw [← hq2] at HQ2 HA2
        rw [← HM1.out] at HA1
        rw [← HM2.out] at HA2
        clear hq1 hq2
        have hz' : (k1 == 0) = false := by simpa using hz
        simp only [celV] at G1 G2
        have HLEN := hid (show (Cel.dense (l.take (k + 1))).length = (Cel.dense (l.take k)).length + 1 from by rw [HE.out]; simp)
        clear HE hka c1 HCI hci l1 XX hz hb1 hb2
        have HXr := hid Xr
        generalize (Cel.dense (l.take k)).length = D at *
        generalize ((Cel.dense (l.take k)).any fun c => decide (c = m1)) = P at *
        generalize ((Cel.dense (l.take k)).any fun c => decide (c = m2)) = Q at *
        clear Xr
        obtain ⟨⟨p0, p1, p2, p3⟩, p4, p5, p6, p7⟩ := BX.c8
        have p0r := cell_regrown p0
        have p1r := cell_regrown p1
        have p2r := cell_regrown p2
        have p3r := cell_regrown p3
        have p4r := cell_regrown p4
        have p5r := cell_regrown p5
        have p6r := cell_regrown p6
        have p7r := cell_regrown p7
        have d0r := cell_regrown d0
        have d1r := cell_regrown d1
        have d2r := cell_regrown d2
        go_wp2_with fail
        refine wp_region_quiet_below (by kernel_rfl) (by kernel_rfl) ?_
        repeat (go_big_quiet_step (first | (go_at_call 21; first | with_reducible exact G1.quiet _ _ _ | with_reducible exact G2.quiet _ _ _)))
        refine wpQuiet_nil ?_
        intro w9 hw9
        have X9 := hid (show Ext _ w9 from by obtain ⟨p, rfl⟩ := hw9; exact ext_regrown _ p)
        replace HXr := hid (HXr.out.then X9.out)
        replace BX := BX.keep X9.out
        replace d0 := ext_cell X9.out d0
        replace d1 := ext_cell X9.out d1
        replace d2 := ext_cell X9.out d2
        clear X9 hw9 p0 p0r p1 p1r p2 p2r p3 p3r p4 p4r p5 p5r p6 p6r p7 p7r d0r d1r d2r
        obtain ⟨⟨p0, p1, p2, p3⟩, p4, p5, p6, p7⟩ := BX.c8
        cases P <;> cases Q
        all_goals
          have p0r := cell_regrown p0
          have p1r := cell_regrown p1
          have p2r := cell_regrown p2
          have p3r := cell_regrown p3
          have p4r := cell_regrown p4
          have p5r := cell_regrown p5
          have p6r := cell_regrown p6
          have p7r := cell_regrown p7
          have d0r := cell_regrown d0
          have d1r := cell_regrown d1
          have d2r := cell_regrown d2
          go_wp2_with fail
          refine wp_region_quiet_below (by kernel_rfl) (by kernel_rfl) ?_
          repeat (go_big_quiet_step (fail))
          refine wpQuiet_nil ?_
          intro w10 hw10
          have X10 := hid (show Ext _ w10 from by obtain ⟨p, rfl⟩ := hw10; exact ext_regrown _ p)
          replace HXr := hid (HXr.out.then X10.out)
          replace BX := BX.keep X10.out
          replace d0 := ext_cell X10.out d0
          replace d1 := ext_cell X10.out d1
          replace d2 := ext_cell X10.out d2
          clear X10 hw10 p0 p0r p1 p1r p2 p2r p3 p3r p4 p4r p5 p5r p6 p6r p7 p7r d0r d1r d2r
          obtain ⟨⟨p0, p1, p2, p3⟩, p4, p5, p6, p7⟩ := BX.c8
          have p0r := cell_regrown p0
          have p1r := cell_regrown p1
          have p2r := cell_regrown p2
          have p3r := cell_regrown p3
          have p4r := cell_regrown p4
          have p5r := cell_regrown p5
          have p6r := cell_regrown p6
          have p7r := cell_regrown p7
          have d0r := cell_regrown d0
          have d1r := cell_regrown d1
          have d2r := cell_regrown d2
          go_wp2_with fail
          refine wp_region_quiet_below (by kernel_rfl) (by kernel_rfl) ?_
          repeat (go_big_quiet_step (fail))
          refine wpQuiet_nil ?_
          intro w11 hw11
          have X11 := hid (show Ext _ w11 from by obtain ⟨p, rfl⟩ := hw11; exact ext_regrown _ p)
          replace HXr := hid (HXr.out.then X11.out)
          clear X11 hw11 p0 p0r p1 p1r p2 p2r p3 p3r p4 p4r p5 p5r p6 p6r p7 p7r d0r d1r d2r d0 d1 d2 BX
          go_wp2
          go_roundw
          case rel =>
            refine ⟨k + 1, by omega, by go_num, by rw [HLEN.out]; go_num, ?_, ?_, HXr.out⟩
            all_goals (first | rw [HA1.out] | rw [HA2.out])
            all_goals simp
          case measure => simp [intOf]; omega
    · have hkn : k = n := by omega
      subst hkn
      have hl : l.take k = l := List.take_of_length_le (by rw [HN.out]; exact Nat.le_refl _)
      have XE := hid (X.out.then Xr)
      have BX := Bx.out.keep Xr
      simp only [hl, H5.out, H6.out, ← HD.out]
      obtain ⟨⟨p0, p1, p2, p3⟩, p4, p5, p6, p7⟩ := BX.c8
      clear hl Xr hk hlt
      by_cases h0 : 0 < d
      all_goals
        have h0i : decide (0 < (d : Int)) = decide (0 < d) := by simp
        simp only [h0, decide_true, decide_false] at h0i ⊢
        go_wp2_with fail
        refine Calls.mono (GC _) ?_
        rintro e w3 ⟨rfl, hx⟩
        have BX3 := BX.keep hx
        replace XE := hid (XE.out.then hx)
        clear hx BX p0 p1 p2 p3 p4 p5 p6 p7
        obtain ⟨⟨p0, p1, p2, p3⟩, p4, p5, p6, p7⟩ := BX3.c8
        go_wp2
        all_goals go_returns
        all_goals exact ⟨rfl, XE.out⟩
set_option maxHeartbeats 4000000 in
theorem statsBound_no (kind : Int) (A : Option Addr) (n cap c : Nat) (w : World) (c2 : ((c : Int) != 0) = true)
    (GO : ∀ w', Ext w w' → Calls Try.prog 13 #[.int .i64 kind, .slice A n cap] w' fun e w'' => e = .returned (.tuple #[.agg #[.int .i64 0, .int .i64 0, .int .i64 0, .int .u64 0, .string .empty, .int .i64 0, .int .u64 0, .string .empty], .int .i64 (c : Nat)]) ∧ Ext w' w'') :
    Calls Try.prog 7 #[.int .i64 kind, .slice A n cap] w fun e w' => e = .returned (.bool true) ∧ Ext w w' := by
  have X := hid (ext_refl w)
  go_enter Try.func7, Try.ntmps7
  go_wp2_with fail
  refine Calls.mono (GO _ X.out) ?_
  rintro e w1 ⟨rfl, hx⟩
  replace X := hid (X.out.then hx)
  clear hx
  replace X := hid (Ext.new X.out (.cells #[.int .i64 0, .int .i64 0, .int .i64 0, .int .u64 0, .string .empty, .int .i64 0, .int .u64 0, .string .empty] 27))
  have Bx := hid (Blk.new w1 27 #[.int .i64 0, .int .i64 0, .int .i64 0, .int .u64 0, .string .empty, .int .i64 0, .int .u64 0, .string .empty])
  go_wp2_with fail
  refine Calls.mono (statsBegun_any _) ?_
  rintro e w2 ⟨rfl, hx⟩
  replace X := hid (X.out.then hx)
  replace Bx := hid (Bx.out.keep hx)
  clear hx
  obtain ⟨⟨p0, p1, p2, p3⟩, p4, p5, p6, p7⟩ := Bx.out.c8
  go_wp2
  all_goals go_returns
  all_goals exact ⟨rfl, X.out⟩
theorem statsBound_walk (kind : Int) (l : List Cel) (A : Option Addr) (n cap : Nat) (w : World) (hn : l.length = n) (hr : Rd w A (cls l)) (hnl : n ≤ 140737488355328) :
    Calls Try.prog 7 #[.int .i64 kind, .slice A n cap] w fun e w' => e = .returned (.bool true) ∧ Ext w w' := by
  have GO := fun w' (hx : Ext w w') => of_any kind l A n cap w' hn (hr.keep hx) hnl
  by_cases hc : Cel.cchk kind l = 0
  · obtain ⟨h1, h2, h3, h4, h5, h6⟩ := Cel.bound hc
    rw [if_pos hc, hc] at GO
    rw [hn] at h2 h3
    exact statsBound_yes kind l _ A n cap w hn hr hnl GO (fun w => by have h := statsCheck_any kind (Cel.rawS l) w; rw [h1] at h; exact h) h2 h3 h4 h5 h6
  · rw [if_neg hc] at GO
    exact statsBound_no kind A n cap _ w (by simp; omega) GO
end Go.Proofs.Ytikdmnedbfpkeaa
