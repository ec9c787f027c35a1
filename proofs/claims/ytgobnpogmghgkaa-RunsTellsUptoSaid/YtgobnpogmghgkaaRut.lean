/- Runs: the closed tests, walked. -/
import Derived.Test.YtgobnpogmghgkaaRur
import Derived.Test.YtgobnpogmghgkaaRuj
import Derived.Test.YtgobnpogmghgkaaRud
import Derived.Test.YtgobnpogmghgkaaRuf
import Derived.Test.YtgobnpogmghgkaaSnm
namespace Hy.Runs
theorem jo_a : jo [(5, 2)] [(5, 1), (6, 1)] = ([(5, 3), (6, 1)], 0) := by unfold jo fin; decide +kernel
theorem ex_a : ex [(5, 2), (1, 1)] = [5, 5, 1] := by unfold ex; decide +kernel
theorem att_a : att [(5, 2), (1, 1)] 2 = (1, 0) := by unfold att; decide +kernel
end Hy.Runs
namespace Go.Proofs.Ytgobnpogmghgkaa
open Go.RowKit Hy
theorem run_any (n : Nat) (m : Int) (w : World) : Calls Try.prog 44 #[.int .u64 (n : Int), .int .i64 m] w fun e w' => e = .returned (.agg #[.int .u64 (n : Int), .int .i64 m]) ∧ Ext w w' := by
  go_enter Try.func44, Try.ntmps44
  go_wp2
  go_returns
  exact ⟨rfl, Ext.new (ext_refl _) _⟩
theorem runList_any (A : Option Addr) (n c : Nat) (w : World) : Calls Try.prog 43 #[.slice A n c] w fun e w' => e = .returned (.slice A n c) ∧ w = w' := by
  go_enter Try.func43, Try.ntmps43
  go_wp2
  go_returns
  exact ⟨rfl, rfl⟩
theorem of_of (l : List Nat) (r : List Runs.Run) (n : Nat) (A : Option Addr) (c : Nat) (w : World) (hn : l.length = n) (h64 : n ≤ 64) (hr : Rd w A (u64s l)) (h : Runs.runs l = r) :
    Calls Try.prog 24 #[.slice A n c] w fun e w' => ∃ B c, e = .returned (.tuple #[.slice B r.length c, .int .i64 0]) ∧ Rd w' B (rws r) ∧ Ext w w' ∧ (B = none → r.length = 0) ∧ r.length ≤ c := by
  subst h
  refine (of_any n c A l hn (by omega) w hr).mono ?_
  simp only [if_pos h64]
  exact fun _ _ h => h
theorem expand_of (l : List Runs.Run) (x : List Nat) (er n : Nat) (A : Option Addr) (c : Nat) (w : World) (hn : l.length = n) (hr : Rd w A (rws l)) (hnl : n ≤ 140737488355328) (h1 : Runs.ex l = x) (h2 : Runs.chk none 0 l = er) :
    Calls Try.prog 30 #[.slice A n c] w fun e w' => ∃ B c, e = .returned (.tuple #[.slice B x.length c, .int .i64 er]) ∧ Rd w' B (u64s x) ∧ Ext w w' := by
  subst h1 h2
  exact expand_any l A n c w hn hr hnl
theorem at_of (l : List Runs.Run) (t : Int) (x er n : Nat) (A : Option Addr) (c : Nat) (w : World) (hn : l.length = n) (hr : Rd w A (rws l)) (hnl : n ≤ 140737488355328) (ht0 : -9223372036854775808 ≤ t) (ht1 : t ≤ 9223372036854775807) (h1 : Runs.att l t = (x, er)) :
    Calls Try.prog 31 #[.slice A n c, .int .i64 t] w fun e w' => e = .returned (.tuple #[.int .u64 (x : Int), .int .i64 (er : Int)]) ∧ Ext w w' := by
  have h := at_any l A n c t w hn hr hnl ht0 ht1
  rw [h1] at h
  exact h
theorem joined_of (a b r : List Runs.Run) (er : Nat) (A B : Option Addr) (n m ca cb : Nat) (w : World) (hn : a.length = n) (hm : b.length = m) (ha : Rd w A (rws a)) (hb : Rd w B (rws b)) (hA : A = none → n = 0) (hB : B = none → m = 0) (hmc : m ≤ cb)
    (hnl : n ≤ 140737488355328) (hml : m ≤ 140737488355328) (h : Runs.jo a b = (r, er)) :
    Calls Try.prog 32 #[.slice A n ca, .slice B m cb] w fun e w' => ∃ C c, e = .returned (.tuple #[.slice C r.length c, .int .i64 er]) ∧ Rd w' C (rws r) ∧ Ext w w' := by
  have h1 := joined_any a b A B n m ca cb w hn hm ha hb hA hB hmc hnl hml
  rw [h] at h1
  exact h1
theorem check_of (l : List Runs.Run) (er n : Nat) (A : Option Addr) (c : Nat) (w : World) (hn : l.length = n) (hr : Rd w A (rws l)) (hnl : n ≤ 140737488355328) (h : Runs.chk none 0 l = er) :
    Calls Try.prog 28 #[.slice A n c] w fun e w' => e = .returned (.int .i64 er) ∧ Ext w w' := by
  subst h; exact check_any l A n c w hn hr hnl
theorem sameRuns_of (a b : List Runs.Run) (A B : Option Addr) (n m ca cb : Nat) (w : World) (hn : a.length = n) (hm : b.length = m) (ha : Rd w A (rws a)) (hb : Rd w B (rws b)) (hnl : n ≤ 140737488355328) (r : Bool) (h : sameRuns a b = r) :
    Calls Try.prog 27 #[.slice A n ca, .slice B m cb] w fun e w' => e = .returned (.bool r) ∧ Ext w w' := by
  subst h; exact sameRuns_any a b A B n m ca cb w hn hm ha hb hnl
theorem sameNums_of (a b : List Nat) (A B : Option Addr) (n m ca cb : Nat) (w : World) (hn : a.length = n) (hm : b.length = m) (ha : Rd w A (u64s a)) (hb : Rd w B (u64s b)) (hnl : n ≤ 140737488355328) (r : Bool) (h : sameNums a b = r) :
    Calls Try.prog 34 #[.slice A n ca, .slice B m cb] w fun e w' => e = .returned (.bool r) ∧ Ext w w' := by
  subst h; exact sameNums_any a b A B n m ca cb w hn hm ha hb hnl
set_option maxHeartbeats 4000000 in
theorem runsBegun_any (w : World) : Calls Try.prog 26 #[] w fun e w' => e = .returned (.bool true) ∧ Ext w w' := by
  have X := hid (ext_refl w)
  go_enter Try.func26, Try.ntmps26
  go_wp2_with fail
  refine (of_of [7, 7, 3, 7] [(7, 2), (3, 1), (7, 1)] 4 _ _ _ rfl (by decide) (rd_lit rfl rfl) rfl).mono ?_
  rintro e w1 ⟨B1, c1, rfl, hr, hx, _, _⟩
  have E := hid (Ext.then (Ext.new (ext_refl _) _) hx)
  replace X := hid (X.out.then E.out)
  have R1 := hid hr
  clear E hx hr
  go_wp2_with fail
  refine (run_any 5 2 _).mono ?_
  rintro e w2 ⟨rfl, hx⟩
  have E := hid hx
  replace X := hid (X.out.then E.out)
  replace R1 := hid (R1.out.keep E.out)
  clear E hx
  go_wp2_with fail
  refine (run_any 1 1 _).mono ?_
  rintro e w3 ⟨rfl, hx⟩
  have E := hid hx
  replace X := hid (X.out.then E.out)
  replace R1 := hid (R1.out.keep E.out)
  clear E hx
  go_wp2_with fail
  refine (runList_any _ _ _ _).mono ?_
  rintro e _ ⟨rfl, rfl⟩
  go_wp2_with fail
  refine (expand_of [(5, 2), (1, 1)] _ 0 2 _ _ _ rfl (rd_lit rfl rfl) (by decide) Runs.ex_a (by decide +kernel)).mono ?_
  rintro e w4 ⟨B3, c3, rfl, hr, hx⟩
  have E := hid (Ext.then (Ext.new (ext_refl _) _) hx)
  replace X := hid (X.out.then E.out)
  replace R1 := hid (R1.out.keep E.out)
  have R3 := hid hr
  clear E hx hr
  go_wp2_with fail
  refine (run_any 5 2 _).mono ?_
  rintro e w5 ⟨rfl, hx⟩
  have E := hid hx
  replace X := hid (X.out.then E.out)
  replace R1 := hid (R1.out.keep E.out)
  replace R3 := hid (R3.out.keep E.out)
  clear E hx
  go_wp2_with fail
  refine (run_any 1 1 _).mono ?_
  rintro e w6 ⟨rfl, hx⟩
  have E := hid hx
  replace X := hid (X.out.then E.out)
  replace R1 := hid (R1.out.keep E.out)
  replace R3 := hid (R3.out.keep E.out)
  clear E hx
  go_wp2_with fail
  refine (runList_any _ _ _ _).mono ?_
  rintro e _ ⟨rfl, rfl⟩
  go_wp2_with fail
  refine (at_of [(5, 2), (1, 1)] 2 _ _ 2 _ _ _ rfl (rd_lit rfl rfl) (by decide) (by decide) (by decide) Runs.att_a).mono ?_
  rintro e w7 ⟨rfl, hx⟩
  have E := hid (Ext.then (Ext.new (ext_refl _) _) hx)
  replace X := hid (X.out.then E.out)
  replace R1 := hid (R1.out.keep E.out)
  replace R3 := hid (R3.out.keep E.out)
  clear E hx
  go_wp2_with fail
  refine (run_any 5 2 _).mono ?_
  rintro e w8 ⟨rfl, hx⟩
  have E := hid hx
  replace X := hid (X.out.then E.out)
  replace R1 := hid (R1.out.keep E.out)
  replace R3 := hid (R3.out.keep E.out)
  clear E hx
  go_wp2_with fail
  refine (runList_any _ _ _ _).mono ?_
  rintro e _ ⟨rfl, rfl⟩
  have RA := hid (rd_lit (cs := rws [(5, 2)]) (w := w8) (C := #[.int .u64 5, .int .i64 2]) (e := 54) (fz := (0, 0)) rfl rfl)
  go_wp2_with fail
  refine (run_any 5 1 _).mono ?_
  rintro e w9 ⟨rfl, hx⟩
  replace RA := hid (RA.out.keep hx)
  have E := hid (Ext.then (Ext.new (ext_refl _) _) hx)
  replace X := hid (X.out.then E.out)
  replace R1 := hid (R1.out.keep E.out)
  replace R3 := hid (R3.out.keep E.out)
  clear E hx
  go_wp2_with fail
  refine (run_any 6 1 _).mono ?_
  rintro e w10 ⟨rfl, hx⟩
  have E := hid hx
  replace X := hid (X.out.then E.out)
  replace R1 := hid (R1.out.keep E.out)
  replace R3 := hid (R3.out.keep E.out)
  replace RA := hid (RA.out.keep E.out)
  clear E hx
  go_wp2_with fail
  refine (runList_any _ _ _ _).mono ?_
  rintro e _ ⟨rfl, rfl⟩
  go_wp2_with fail
  refine (joined_of [(5, 2)] [(5, 1), (6, 1)] _ _ _ _ 1 2 _ _ _ rfl rfl (RA.out.keep (Ext.new (ext_refl _) _)) (rd_lit rfl rfl) (fun h => by cases h) (fun h => by cases h) (by decide) (by decide) (by decide) Runs.jo_a).mono ?_
  rintro e w11 ⟨B7, c7, rfl, hr, hx⟩
  have E := hid (Ext.then (Ext.new (ext_refl _) _) hx)
  replace X := hid (X.out.then E.out)
  replace R1 := hid (R1.out.keep E.out)
  replace R3 := hid (R3.out.keep E.out)
  replace RA := hid (RA.out.keep E.out)
  have R7 := hid hr
  clear E hx hr
  clear RA
  go_wp2_with fail
  refine (run_any 7 2 _).mono ?_
  rintro e w12 ⟨rfl, hx⟩
  have E := hid hx
  replace X := hid (X.out.then E.out)
  replace R1 := hid (R1.out.keep E.out)
  replace R3 := hid (R3.out.keep E.out)
  replace R7 := hid (R7.out.keep E.out)
  clear E hx
  go_wp2_with fail
  refine (run_any 3 1 _).mono ?_
  rintro e w13 ⟨rfl, hx⟩
  have E := hid hx
  replace X := hid (X.out.then E.out)
  replace R1 := hid (R1.out.keep E.out)
  replace R3 := hid (R3.out.keep E.out)
  replace R7 := hid (R7.out.keep E.out)
  clear E hx
  go_wp2_with fail
  refine (run_any 7 1 _).mono ?_
  rintro e w14 ⟨rfl, hx⟩
  have E := hid hx
  replace X := hid (X.out.then E.out)
  replace R1 := hid (R1.out.keep E.out)
  replace R3 := hid (R3.out.keep E.out)
  replace R7 := hid (R7.out.keep E.out)
  clear E hx
  go_wp2_with fail
  refine (runList_any _ _ _ _).mono ?_
  rintro e _ ⟨rfl, rfl⟩
  go_wp2_with fail
  refine (sameRuns_of [(7, 2), (3, 1), (7, 1)] [(7, 2), (3, 1), (7, 1)] _ _ 3 3 _ _ _ rfl rfl (R1.out.keep (Ext.new (ext_refl _) _)) (rd_lit rfl rfl) (by decide) true (by decide)).mono ?_
  rintro e w15 ⟨rfl, hx⟩
  have E := hid (Ext.then (Ext.new (ext_refl _) _) hx)
  replace X := hid (X.out.then E.out)
  replace R1 := hid (R1.out.keep E.out)
  replace R3 := hid (R3.out.keep E.out)
  replace R7 := hid (R7.out.keep E.out)
  clear E hx
  clear R1
  go_wp2_with fail
  refine (sameNums_of [5, 5, 1] [5, 5, 1] _ _ 3 3 _ _ _ rfl rfl (R3.out.keep (Ext.new (ext_refl _) _)) (rd_lit rfl rfl) (by decide) true (by decide)).mono ?_
  rintro e w16 ⟨rfl, hx⟩
  have E := hid (Ext.then (Ext.new (ext_refl _) _) hx)
  replace X := hid (X.out.then E.out)
  replace R3 := hid (R3.out.keep E.out)
  replace R7 := hid (R7.out.keep E.out)
  clear E hx
  clear R3
  go_wp2_with fail
  refine (run_any 5 3 _).mono ?_
  rintro e w17 ⟨rfl, hx⟩
  have E := hid hx
  replace X := hid (X.out.then E.out)
  replace R7 := hid (R7.out.keep E.out)
  clear E hx
  go_wp2_with fail
  refine (run_any 6 1 _).mono ?_
  rintro e w18 ⟨rfl, hx⟩
  have E := hid hx
  replace X := hid (X.out.then E.out)
  replace R7 := hid (R7.out.keep E.out)
  clear E hx
  go_wp2_with fail
  refine (runList_any _ _ _ _).mono ?_
  rintro e _ ⟨rfl, rfl⟩
  go_wp2_with fail
  refine (sameRuns_of [(5, 3), (6, 1)] [(5, 3), (6, 1)] _ _ 2 2 _ _ _ rfl rfl (R7.out.keep (Ext.new (ext_refl _) _)) (rd_lit rfl rfl) (by decide) true (by decide)).mono ?_
  rintro e w19 ⟨rfl, hx⟩
  have E := hid (Ext.then (Ext.new (ext_refl _) _) hx)
  replace X := hid (X.out.then E.out)
  replace R7 := hid (R7.out.keep E.out)
  clear E hx
  clear R7
  go_wp2_with fail
  refine (run_any 1 1 _).mono ?_
  rintro e w20 ⟨rfl, hx⟩
  have E := hid hx
  replace X := hid (X.out.then E.out)
  clear E hx
  go_wp2_with fail
  refine (run_any 1 1 _).mono ?_
  rintro e w21 ⟨rfl, hx⟩
  have E := hid hx
  replace X := hid (X.out.then E.out)
  clear E hx
  go_wp2_with fail
  refine (runList_any _ _ _ _).mono ?_
  rintro e _ ⟨rfl, rfl⟩
  go_wp2_with fail
  refine (check_of [(1, 1), (1, 1)] 6 2 _ _ _ rfl (rd_lit rfl rfl) (by decide) (by decide +kernel)).mono ?_
  rintro e w22 ⟨rfl, hx⟩
  have E := hid (Ext.then (Ext.new (ext_refl _) _) hx)
  replace X := hid (X.out.then E.out)
  clear E hx
  go_wp2
  go_returns
  exact ⟨rfl, X.out⟩
end Go.Proofs.Ytgobnpogmghgkaa
