/- NullsBack: walk. -/
import Derived.Test.YtikdmnedbfpkeaaNli
namespace Hy.Cel
theorem back_at {kind : Int} {l : List Cel} (h : cchk kind l = 0) (i : Nat) (hi : i < l.length) : atE kind (thereL l) (dense l) i = 0 ∧ atC kind (thereL l) (dense l) i = l[i] := by
  obtain ⟨hj, _⟩ := back h
  have e : atE kind (thereL l) (dense l) i = 0 := by unfold atE; rw [if_neg (by simp [hj]), if_neg (by rw [thereL_len]; omega)]
  exact ⟨e, by unfold atC; rw [if_pos e]; exact jat_back (cchk_ok h) i hi⟩
end Hy.Cel
namespace Go.Proofs.Ytikdmnedbfpkeaa
open Go.RowKit Hy
set_option maxHeartbeats 2000000 in
theorem nullsBack_out (kind : Int) (l : List Cel) (i : Int) (A : Option Addr) (n cap : Nat) (w : World) (hn : l.length = n) (hr : Rd w A (cls l)) (hj : Cel.cchk kind l = 0) (ho : i < 0 ∨ (n : Int) ≤ i) :
    Calls Try.prog 10 #[.int .i64 kind, .slice A n cap, .int .i64 i] w fun e w' => e = .returned (.bool true) ∧ Ext w w' := by
  have hn64 : n ≤ 64 := by rw [← hn]; exact (Cel.cchk_iff.1 hj).2.1
  have hdl := Cel.dense_len l
  have HS := hid (split_yes kind l A n cap w hn hr hj)
  obtain ⟨b1, b2⟩ := Cel.back hj
  have HJ := hid (fun w' C c D d (h1 : Rd w' C (bls (thereL l))) (h2 : Rd w' D (cls (Cel.dense l))) (h3 : (Cel.dense l).length ≤ d) => join_any kind (thereL l) (Cel.dense l) C D (Cel.dense l).length n c d w' ((thereL_len l).trans hn) h1 rfl h2 h3 (by omega) (by omega))
  rw [b1, b2, hn] at HJ
  have HC := hid (fun w' B c (hx : Ext w w') (h1 : Rd w' B (cls l)) => sameCells_any l l B A n n c cap w' hn hn h1 (hr.keep hx) (by omega))
  simp only [decide_true] at HC
  have hnI : (n : Int) ≤ 64 := by omega
  generalize Cel.dense l = D' at *
  generalize thereL l = M' at *
  clear hn hr hj b1 b2 hdl hn64
  rcases ho with ho | ho
  all_goals
    go_enter Try.func10, Try.ntmps10
    go_wp2_with fail
    refine Calls.mono HS.out ?_
    rintro e w1 ⟨C, c, D, d, rfl, h1, h2, h3, h4, hx⟩
    have X := hid hx
    have RM := hid h1
    have RD := hid h2
    have HD := hid h4
    clear hx h1 h2 h3 h4
    go_wp2_with fail
    refine Calls.mono (nullsBegun_any _) ?_
    rintro e w2 ⟨rfl, hx⟩
    replace X := hid (X.out.then hx)
    replace RM := hid (RM.out.keep hx)
    replace RD := hid (RD.out.keep hx)
    clear hx
    go_wp2_with fail
    refine Calls.mono (HJ.out _ _ _ _ _ RM.out RD.out HD.out) ?_
    rintro e w3 ⟨J, j, rfl, h1, hx⟩
    replace X := hid (X.out.then hx)
    have RJ := hid h1
    clear hx h1
    go_wp2_with fail
    refine Calls.mono (HC.out _ _ _ X.out RJ.out) ?_
    rintro e w4 ⟨rfl, hx⟩
    replace X := hid (X.out.then hx)
    clear hx
    go_wp2
    go_returns
    exact ⟨rfl, X.out⟩
set_option maxHeartbeats 2000000 in
theorem nullsBack_in (kind : Int) (l : List Cel) (i : Nat) (A : Option Addr) (n cap : Nat) (w : World) (hn : l.length = n) (hr : Rd w A (cls l)) (hj : Cel.cchk kind l = 0) (ho : i < n) :
    Calls Try.prog 10 #[.int .i64 kind, .slice A n cap, .int .i64 i] w fun e w' => e = .returned (.bool true) ∧ Ext w w' := by
  have hn64 : n ≤ 64 := by rw [← hn]; exact (Cel.cchk_iff.1 hj).2.1
  have hdl := Cel.dense_len l
  have HS := hid (split_yes kind l A n cap w hn hr hj)
  obtain ⟨b1, b2⟩ := Cel.back hj
  have HJ := hid (fun w' C c D d (h1 : Rd w' C (bls (thereL l))) (h2 : Rd w' D (cls (Cel.dense l))) (h3 : (Cel.dense l).length ≤ d) => join_any kind (thereL l) (Cel.dense l) C D (Cel.dense l).length n c d w' ((thereL_len l).trans hn) h1 rfl h2 h3 (by omega) (by omega))
  rw [b1, b2, hn] at HJ
  have HC := hid (fun w' B c (hx : Ext w w') (h1 : Rd w' B (cls l)) => sameCells_any l l B A n n c cap w' hn hn h1 (hr.keep hx) (by omega))
  simp only [decide_true] at HC
  obtain ⟨a1, a2⟩ := Cel.back_at hj i (by omega)
  have HA := hid (fun w' C c D d (h1 : Rd w' C (bls (thereL l))) (h2 : Rd w' D (cls (Cel.dense l))) (h3 : n ≤ c) => at_any kind (thereL l) (Cel.dense l) i C D (Cel.dense l).length n c d w' ((thereL_len l).trans hn) h1 rfl h2 h3 (by omega) (by omega))
  rw [a1, a2] at HA
  have hnI : (n : Int) ≤ 64 := by omega
  have hoI : (i : Int) < (n : Int) := by omega
  have hi0 : (0 : Int) ≤ (i : Int) := by omega
  obtain ⟨b, o, rfl, lb, cb⟩ := hr.cels i (by omega)
  have hc := cb i (by omega)
  obtain ⟨cc, hcc⟩ : ∃ cc, cc = l[i] := ⟨_, rfl⟩
  rw [← hcc] at hc HA
  obtain ⟨ck, cn, cs⟩ := cc
  have HCC := hid hc
  have HQ := fun w => cel_eql ck ck cn cn cs cs w
  simp only [decide_true] at HQ
  generalize Cel.dense l = D' at *
  generalize thereL l = M' at *
  clear hn hr hj b1 b2 hdl hn64 a1 a2 cb hc hcc lb ho
  go_enter Try.func10, Try.ntmps10
  go_wp2_with fail
  refine Calls.mono HS.out ?_
  rintro e w1 ⟨C, c, D, d, rfl, h1, h2, h3, h4, hx⟩
  have X := hid hx
  have RM := hid h1
  have RD := hid h2
  have HD := hid h4
  have HCa := hid h3
  clear hx h1 h2 h3 h4
  go_wp2_with fail
  refine Calls.mono (nullsBegun_any _) ?_
  rintro e w2 ⟨rfl, hx⟩
  replace X := hid (X.out.then hx)
  replace RM := hid (RM.out.keep hx)
  replace RD := hid (RD.out.keep hx)
  clear hx
  go_wp2_with fail
  refine Calls.mono (HJ.out _ _ _ _ _ RM.out RD.out HD.out) ?_
  rintro e w3 ⟨J, j, rfl, h1, hx⟩
  replace X := hid (X.out.then hx)
  replace RM := hid (RM.out.keep hx)
  replace RD := hid (RD.out.keep hx)
  have RJ := hid h1
  clear hx h1
  go_wp2_with fail
  refine Calls.mono (HC.out _ _ _ X.out RJ.out) ?_
  rintro e w4 ⟨rfl, hx⟩
  replace X := hid (X.out.then hx)
  replace RM := hid (RM.out.keep hx)
  replace RD := hid (RD.out.keep hx)
  clear hx
  go_wp2_with fail
  refine Calls.mono (HA.out _ _ _ _ _ RM.out RD.out HCa.out) ?_
  rintro e w5 ⟨rfl, hx⟩
  replace X := hid (Ext.new (X.out.then hx) (.cells #[.int .i64 ck, .int .u64 (cn : Nat), .string cs] 25))
  have BC := Blk.new w5 25 #[.int .i64 ck, .int .u64 (cn : Nat), .string cs]
  obtain ⟨p0, p1, p2⟩ := BC.c3
  have d0 := ext_cell X.out HCC.out.1
  have d1 := ext_cell X.out HCC.out.2.1
  have d2 := ext_cell X.out HCC.out.2.2
  have p0r := cell_regrown p0
  have p1r := cell_regrown p1
  have p2r := cell_regrown p2
  have d0r := cell_regrown d0
  have d1r := cell_regrown d1
  have d2r := cell_regrown d2
  clear hx
  go_wp2_with fail
  refine wp_region_quiet_below (by kernel_rfl) (by kernel_rfl) ?_
  repeat (go_big_quiet_step (fail))
  refine wpQuiet_nil ?_
  intro w6 hw6
  have hx := (show Ext _ w6 from by obtain ⟨p, rfl⟩ := hw6; exact ext_regrown _ p)
  replace X := hid (X.out.then hx)
  clear hx hw6 p0 p0r p1 p1r p2 p2r d0 d0r d1 d1r d2 d2r BC
  go_wp2
  go_returns
  exact ⟨rfl, X.out⟩
theorem nullsBack_no (kind : Int) (A : Option Addr) (n cap er : Nat) (i : Int) (w : World) (e2 : ((er : Int) != 0) = true)
    (HS : Hid (Calls Try.prog 22 #[.int .i64 kind, .slice A n cap] w fun e w' => e = .returned (.tuple #[.slice none 0 0, .slice none 0 0, .int .i64 (er : Nat)]) ∧ Ext w w')) :
    Calls Try.prog 10 #[.int .i64 kind, .slice A n cap, .int .i64 i] w fun e w' => e = .returned (.bool true) ∧ Ext w w' := by
  go_enter Try.func10, Try.ntmps10
  go_wp2_with fail
  refine Calls.mono HS.out ?_
  rintro e w1 ⟨rfl, hx⟩
  have X := hid hx
  clear hx
  go_wp2_with fail
  refine Calls.mono (nullsBegun_any _) ?_
  rintro e w2 ⟨rfl, hx⟩
  replace X := hid (X.out.then hx)
  clear hx
  go_wp2
  go_returns
  exact ⟨rfl, X.out⟩
theorem nullsBack_walk (kind : Int) (l : List Cel) (i : Int) (A : Option Addr) (n cap : Nat) (w : World) (hn : l.length = n) (hr : Rd w A (cls l)) (hnl : n ≤ 140737488355328) :
    Calls Try.prog 10 #[.int .i64 kind, .slice A n cap, .int .i64 i] w fun e w' => e = .returned (.bool true) ∧ Ext w w' := by
  by_cases hj : Cel.cchk kind l = 0
  · by_cases ho : i < 0 ∨ (n : Int) ≤ i
    · exact nullsBack_out kind l i A n cap w hn hr hj ho
    · obtain ⟨k, rfl⟩ : ∃ k : Nat, i = k := ⟨i.toNat, by omega⟩
      exact nullsBack_in kind l k A n cap w hn hr hj (by omega)
  · exact nullsBack_no kind A n cap _ i w (by rw [bne_iff_ne]; omega) (hid (split_no kind A n cap _ w (by rw [bne_iff_ne]; omega) (hid (check_any kind l A n cap w hn hr hnl))))
end Go.Proofs.Ytikdmnedbfpkeaa
