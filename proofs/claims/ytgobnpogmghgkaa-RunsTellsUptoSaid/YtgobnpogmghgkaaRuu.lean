/- Runs: the laws' walks. -/
import Derived.Test.YtgobnpogmghgkaaRut
import Derived.Test.YtgobnpogmghgkaaRuh
namespace Go.Proofs.Ytgobnpogmghgkaa
open Go.RowKit Hy
theorem of_many (l : List Nat) (n : Nat) (A : Option Addr) (c : Nat) (w : World) (hn : l.length = n) (h64 : ¬ n ≤ 64) (hnl : n ≤ 9223372036854775807) (hr : Rd w A (u64s l)) :
    Calls Try.prog 24 #[.slice A n c] w fun e w' => ∃ B c, e = .returned (.tuple #[.slice B 0 c, .int .i64 2]) ∧ Rd w' B (rws []) ∧ Ext w w' := by
  refine (of_any n c A l hn (by omega) w hr).mono ?_
  simp only [if_neg h64]
  rintro e w' ⟨B, c, rfl, h1, h2, _, _⟩
  exact ⟨B, c, rfl, h1, h2⟩
set_option maxHeartbeats 1600000 in
theorem runsTells_walk (l : List Nat) (r : List Runs.Run) (A B : Option Addr) (n m ca cb : Nat) (W : World) (hn : l.length = n) (hm : r.length = m) (ha : Rd W A (u64s l)) (hb : Rd W B (rws r)) (hnl : n ≤ 1048576) (hml : m ≤ 140737488355328) :
    Calls Try.prog 10 #[.slice A n ca, .slice B m cb] W fun e w' => e = .returned (.bool true) ∧ Ext W w' := by
  have HN := hid hn
  have HR := hid (fun w' (hx : Ext W w') => runsOf_any l A n ca w' hn (ha.keep hx) (by omega))
  have HCK := hid (fun w' (hx : Ext W w') => check_any r B m cb w' hm (hb.keep hx) hml)
  have HCR := hid (fun w' (hx : Ext W w') => runsCheck_any r B m cb w' hm (hb.keep hx) hml)
  obtain ⟨K, hK⟩ : ∃ K, K = Runs.chk none 0 r := ⟨_, rfl⟩
  rw [← hK] at HCK HCR
  have e1 : ((K : Int) == (K : Int)) = true := by simp
  have hRL := Runs.runs_len l
  have HRL := hid (show (Runs.runs l).length ≤ 1048576 by omega)
  obtain ⟨R, hR⟩ : ∃ R, R = Runs.runs l := ⟨_, rfl⟩
  by_cases h : n ≤ 64
  · have H1 := hid (of_of l R n A ca W hn h ha hR.symm)
    have hnI : (n : Int) ≤ 64 := by omega
    rw [← hR] at HR HRL
    clear hn hm ha hb hnl hml hK h hRL hR
    go_enter Try.func10, Try.ntmps10
    go_wp2_with fail
    refine H1.out.mono ?_
    rintro e w1 ⟨B1, c1, rfl, h1, h2, _, _⟩
    have R1 := hid h1
    have X1 := hid h2
    clear h1 h2
    go_wp2_with fail
    refine (HR.out _ X1.out).mono ?_
    rintro e w2 ⟨B2, c2, rfl, h1, h2⟩
    have R2 := hid h1
    replace R1 := hid (R1.out.keep h2)
    have X2 := hid (X1.out.then h2)
    clear h1 h2
    go_wp2_with fail
    refine (runsBegun_any _).mono ?_
    rintro e w3 ⟨rfl, h2⟩
    replace R1 := hid (R1.out.keep h2)
    replace R2 := hid (R2.out.keep h2)
    have X3 := hid (X2.out.then h2)
    clear h2
    go_wp2_with fail
    refine (sameRuns_of R R _ _ _ _ _ _ _ rfl rfl R1.out R2.out (by have := HRL.out; omega) true (by simp [sameRuns])).mono ?_
    rintro e w4 ⟨rfl, h2⟩
    have X4 := hid (X3.out.then h2)
    clear h2
    go_wp2_with fail
    refine (HCK.out _ X4.out).mono ?_
    rintro e w5 ⟨rfl, h2⟩
    have X5 := hid (X4.out.then h2)
    clear h2
    go_wp2_with fail
    refine (HCR.out _ X5.out).mono ?_
    rintro e w6 ⟨rfl, h2⟩
    have X6 := hid (X5.out.then h2)
    clear h2
    go_wp2
    go_returns
    exact ⟨rfl, X6.out⟩
  · have H1 := hid (of_many l n A ca W hn h (by omega) ha)
    have hnI : 64 < (n : Int) := by omega
    rw [← hR] at HR HRL
    clear hn hm ha hb hnl hml hK h hRL hR
    go_enter Try.func10, Try.ntmps10
    go_wp2_with fail
    refine H1.out.mono ?_
    rintro e w1 ⟨B1, c1, rfl, h1, h2⟩
    have R1 := hid h1
    have X1 := hid h2
    clear h1 h2
    go_wp2_with fail
    refine (HR.out _ X1.out).mono ?_
    rintro e w2 ⟨B2, c2, rfl, h1, h2⟩
    replace R1 := hid (R1.out.keep h2)
    have X2 := hid (X1.out.then h2)
    clear h1 h2
    go_wp2_with fail
    refine (runsBegun_any _).mono ?_
    rintro e w3 ⟨rfl, h2⟩
    replace R1 := hid (R1.out.keep h2)
    have X3 := hid (X2.out.then h2)
    clear h2
    go_wp2_with fail
    refine (sameRuns_of [] [] _ none 0 0 _ 0 _ rfl rfl R1.out (fun h => absurd h (by simp [rws])) (by decide) true (by simp [sameRuns])).mono ?_
    rintro e w4 ⟨rfl, h2⟩
    have X4 := hid (X3.out.then h2)
    clear h2
    go_wp2_with fail
    refine (HCK.out _ X4.out).mono ?_
    rintro e w5 ⟨rfl, h2⟩
    have X5 := hid (X4.out.then h2)
    clear h2
    go_wp2_with fail
    refine (HCR.out _ X5.out).mono ?_
    rintro e w6 ⟨rfl, h2⟩
    have X6 := hid (X5.out.then h2)
    clear h2
    go_wp2
    go_returns
    exact ⟨rfl, X6.out⟩
set_option maxHeartbeats 1600000 in
theorem runsBack_walk (l : List Nat) (r : List Runs.Run) (A B : Option Addr) (n m ca cb : Nat) (W : World) (hn : l.length = n) (hm : r.length = m) (ha : Rd W A (u64s l)) (hb : Rd W B (rws r)) (hnl : n ≤ 140737488355328) (hml : m ≤ 140737488355328) :
    Calls Try.prog 12 #[.slice A n ca, .slice B m cb] W fun e w' => e = .returned (.bool true) ∧ Ext W w' := by
  have HN := hid hn
  have HRB := hid hb
  have HM := hid hm
  have HML := hid hml
  have HRA := hid ha
  have HNL := hid hnl
  have HEX := hid (fun w' (hx : Ext W w') => expand_any r B m cb w' hm (hb.keep hx) hml)
  have HKK := hid (chk_lt r none 0)
  have HZ := hid (Runs.chk_zero r none 0)
  have HOK := hid (Runs.runs_ok r)
  have HEO := hid (Runs.ex_ok r)
  have HEN := hid (Runs.ex_no r)
  obtain ⟨K, hK⟩ : ∃ K, K = Runs.chk none 0 r := ⟨_, rfl⟩
  obtain ⟨EX, hEX⟩ : ∃ EX, EX = Runs.ex r := ⟨_, rfl⟩
  rw [← hK, ← hEX] at HEX
  rw [← hK] at HKK
  have HKE := hid hK
  have HEE := hid hEX
  have tail : ∀ (w1 : World), Ext W w1 → True := fun _ _ => trivial
  clear tail
  by_cases h : n ≤ 64
  · have H1 := hid (of_of l (Runs.runs l) n A ca W hn h ha rfl)
    have HCR := hid (Runs.chk_runs l (by omega))
    have HER := hid (Runs.ex_runs l (by omega))
    have hRL := Runs.runs_len l
    have HRL := hid (show (Runs.runs l).length ≤ 64 by omega)
    have hnI : (n : Int) ≤ 64 := by omega
    have hd2 : decide (n ≤ 64) = true := by simpa using h
    generalize Runs.runs l = R at *
    clear hn hm ha hb hnl hml hK h hRL hEX
    by_cases hk0 : K = 0
    · subst hk0
      have hex : EX = Runs.unrun r := by rw [HEE.out, HEO.out HKE.out.symm]
      have hz := HZ.out HKE.out.symm (by omega)
      have hz3 := HOK.out HKE.out.symm
      rw [← hex] at hz hz3
      have HEXL := hid (show EX.length ≤ 64 by omega)
      have HRE := hid hz3
      clear hex hz hz3
      go_enter Try.func12, Try.ntmps12
      go_wp2_with fail
      refine H1.out.mono ?_
      rintro e w1 ⟨B1, c1, rfl, h1, h2, _, _⟩
      have R1 := hid h1
      have X1 := hid h2
      clear h1 h2
      go_wp2_with fail
      refine (runsBegun_any _).mono ?_
      rintro e w2 ⟨rfl, h2⟩
      replace R1 := hid (R1.out.keep h2)
      have X2 := hid (X1.out.then h2)
      clear h2
      go_wp2_with fail
      refine (expand_of R l 0 _ _ _ _ rfl R1.out (by have := HRL.out; omega) HER.out HCR.out).mono ?_
      rintro e w3 ⟨B3, c3, rfl, h1, h2⟩
      replace R1 := hid (R1.out.keep h2)
      have R3 := hid h1
      have X3 := hid (X2.out.then h2)
      clear h1 h2
      go_wp2_with fail
      refine (sameNums_of l l _ _ _ _ _ _ _ rfl HN.out R3.out (HRA.out.keep X3.out) (by have := HNL.out; have := HN.out; omega) true (by simp [sameNums])).mono ?_
      rintro e w4 ⟨rfl, h2⟩
      replace R1 := hid (R1.out.keep h2)
      have X4 := hid (X3.out.then h2)
      clear h2
      go_wp2_with fail
      refine (check_of R 0 _ _ _ _ rfl R1.out (by have := HRL.out; omega) HCR.out).mono ?_
      rintro e w5 ⟨rfl, h2⟩
      have X5 := hid (X4.out.then h2)
      clear h2
      go_wp2_with fail
      refine (HEX.out _ X5.out).mono ?_
      rintro e w6 ⟨B6, c6, rfl, h1, h2⟩
      have R6 := hid h1
      have X6 := hid (X5.out.then h2)
      clear h1 h2
      go_wp2_with fail
      refine (of_of EX r _ _ _ _ rfl HEXL.out R6.out HRE.out).mono ?_
      rintro e w7 ⟨B7, c7, rfl, h1, h2, _, _⟩
      have R7 := hid h1
      have X7 := hid (X6.out.then h2)
      clear h1 h2
      go_wp2_with fail
      refine (sameRuns_of r r _ _ _ _ _ _ _ rfl HM.out R7.out (HRB.out.keep X7.out) (by have := HML.out; have := HM.out; omega) true (by simp [sameRuns])).mono ?_
      rintro e w8 ⟨rfl, h2⟩
      have X8 := hid (X7.out.then h2)
      clear h2
      go_wp2
      go_returns
      exact ⟨rfl, X8.out⟩
    · have hex : EX = [] := by rw [HEE.out, HEN.out (by rw [← HKE.out]; exact hk0)]
      subst hex
      have hb := HKK.out
      have hKI : 1 ≤ (K : Int) ∧ (K : Int) ≤ 6 := by omega
      have e1 : ((K : Int) == 0) = false := by rw [beq_eq_false_iff_ne]; omega
      have e2 : ((K : Int) != 0) = true := by simp; omega
      clear hb hk0
      go_enter Try.func12, Try.ntmps12
      go_wp2_with fail
      refine H1.out.mono ?_
      rintro e w1 ⟨B1, c1, rfl, h1, h2, _, _⟩
      have R1 := hid h1
      have X1 := hid h2
      clear h1 h2
      go_wp2_with fail
      refine (runsBegun_any _).mono ?_
      rintro e w2 ⟨rfl, h2⟩
      replace R1 := hid (R1.out.keep h2)
      have X2 := hid (X1.out.then h2)
      clear h2
      go_wp2_with fail
      refine (expand_of R l 0 _ _ _ _ rfl R1.out (by have := HRL.out; omega) HER.out HCR.out).mono ?_
      rintro e w3 ⟨B3, c3, rfl, h1, h2⟩
      replace R1 := hid (R1.out.keep h2)
      have R3 := hid h1
      have X3 := hid (X2.out.then h2)
      clear h1 h2
      go_wp2_with fail
      refine (sameNums_of l l _ _ _ _ _ _ _ rfl HN.out R3.out (HRA.out.keep X3.out) (by have := HNL.out; have := HN.out; omega) true (by simp [sameNums])).mono ?_
      rintro e w4 ⟨rfl, h2⟩
      replace R1 := hid (R1.out.keep h2)
      have X4 := hid (X3.out.then h2)
      clear h2
      go_wp2_with fail
      refine (check_of R 0 _ _ _ _ rfl R1.out (by have := HRL.out; omega) HCR.out).mono ?_
      rintro e w5 ⟨rfl, h2⟩
      have X5 := hid (X4.out.then h2)
      clear h2
      go_wp2_with fail
      refine (HEX.out _ X5.out).mono ?_
      rintro e w6 ⟨B6, c6, rfl, h1, h2⟩
      have X6 := hid (X5.out.then h2)
      clear h1 h2
      go_wp2
      go_returns
      exact ⟨rfl, X6.out⟩
  · have H1 := hid (of_many l n A ca W hn h (by omega) ha)
    have hnI : 64 < (n : Int) := by omega
    have hd2 : decide (n ≤ 64) = false := by simpa using h
    clear hn hm ha hb hnl hml hK h hEX
    by_cases hk0 : K = 0
    · subst hk0
      have hex : EX = Runs.unrun r := by rw [HEE.out, HEO.out HKE.out.symm]
      have hz := HZ.out HKE.out.symm (by omega)
      have hz3 := HOK.out HKE.out.symm
      rw [← hex] at hz hz3
      have HEXL := hid (show EX.length ≤ 64 by omega)
      have HRE := hid hz3
      clear hex hz hz3
      go_enter Try.func12, Try.ntmps12
      go_wp2_with fail
      refine H1.out.mono ?_
      rintro e w1 ⟨B1, c1, rfl, h1, h2⟩
      have X1 := hid h2
      clear h1 h2
      go_wp2_with fail
      refine (runsBegun_any _).mono ?_
      rintro e w2 ⟨rfl, h2⟩
      have X5 := hid (X1.out.then h2)
      clear h2
      go_wp2_with fail
      refine (HEX.out _ X5.out).mono ?_
      rintro e w6 ⟨B6, c6, rfl, h1, h2⟩
      have R6 := hid h1
      have X6 := hid (X5.out.then h2)
      clear h1 h2
      go_wp2_with fail
      refine (of_of EX r _ _ _ _ rfl HEXL.out R6.out HRE.out).mono ?_
      rintro e w7 ⟨B7, c7, rfl, h1, h2, _, _⟩
      have R7 := hid h1
      have X7 := hid (X6.out.then h2)
      clear h1 h2
      go_wp2_with fail
      refine (sameRuns_of r r _ _ _ _ _ _ _ rfl HM.out R7.out (HRB.out.keep X7.out) (by have := HML.out; have := HM.out; omega) true (by simp [sameRuns])).mono ?_
      rintro e w8 ⟨rfl, h2⟩
      have X8 := hid (X7.out.then h2)
      clear h2
      go_wp2
      go_returns
      exact ⟨rfl, X8.out⟩
    · have hex : EX = [] := by rw [HEE.out, HEN.out (by rw [← HKE.out]; exact hk0)]
      subst hex
      have hb := HKK.out
      have hKI : 1 ≤ (K : Int) ∧ (K : Int) ≤ 6 := by omega
      have e1 : ((K : Int) == 0) = false := by rw [beq_eq_false_iff_ne]; omega
      have e2 : ((K : Int) != 0) = true := by simp; omega
      clear hb hk0
      go_enter Try.func12, Try.ntmps12
      go_wp2_with fail
      refine H1.out.mono ?_
      rintro e w1 ⟨B1, c1, rfl, h1, h2⟩
      have X1 := hid h2
      clear h1 h2
      go_wp2_with fail
      refine (runsBegun_any _).mono ?_
      rintro e w2 ⟨rfl, h2⟩
      have X5 := hid (X1.out.then h2)
      clear h2
      go_wp2_with fail
      refine (HEX.out _ X5.out).mono ?_
      rintro e w6 ⟨B6, c6, rfl, h1, h2⟩
      have X6 := hid (X5.out.then h2)
      clear h1 h2
      go_wp2
      go_returns
      exact ⟨rfl, X6.out⟩
end Go.Proofs.Ytgobnpogmghgkaa
