/- Runs: RunsReads: walk. -/
import Derived.Test.YtgobnpogmghgkaaRuu
import Derived.Test.YtgobnpogmghgkaaRow
namespace Hy.Runs
theorem att_low (l : List Run) (t : Int) (h : chk none 0 l = 0) (ht : t < 0) : att l t = (0, 3) := by unfold att; rw [if_neg (by simp [h]), if_pos ht]
theorem att_high (l : List Run) (t : Int) (h : chk none 0 l = 0) (ht : ((unrun l).length : Int) ≤ t) : att l t = (0, 3) := by
  unfold att; rw [if_neg (by simp [h]), if_neg (by omega), List.getElem?_eq_none (by omega)]
theorem att_in (l : List Run) (T v : Nat) (h : chk none 0 l = 0) (ht : (unrun l)[T]? = some v) : att l (T : Int) = (v, 0) := by
  unfold att; rw [if_neg (by simp [h]), if_neg (by omega), Int.toNat_natCast, ht]
theorem att_bad (l : List Run) (t : Int) (h : chk none 0 l ≠ 0) : att l t = (0, chk none 0 l) := by unfold att; rw [if_pos h]
theorem jo_bad (a b : List Run) (h : chk none 0 a ≠ 0) : jo a b = ([], chk none 0 a) := by unfold jo; rw [if_pos h]
theorem jo_bad2 (a b : List Run) (h : chk none 0 a = 0) (h2 : chk none 0 b ≠ 0) : jo a b = ([], chk none 0 b) := by unfold jo; rw [if_neg (by simp [h]), if_pos h2]
end Hy.Runs
namespace Hy
open Go Go.RowKit
theorem rd_none {w : World} {A : Option Addr} {l : List Nat} (h : Rd w A (u64s l)) (hA : A = none) : l.length = 0 := by
  rcases Nat.eq_zero_or_pos l.length with h0 | h0
  · exact h0
  · obtain ⟨b, o, e, _⟩ := h (by rw [u64s_len]; exact h0)
    rw [hA] at e; cases e
end Hy
namespace Go.Proofs.Ytgobnpogmghgkaa
open Go.RowKit Hy
theorem runsCheck_of (l : List Runs.Run) (er n : Nat) (A : Option Addr) (c : Nat) (w : World) (hn : l.length = n) (hr : Rd w A (rws l)) (hnl : n ≤ 140737488355328) (h : Runs.chk none 0 l = er) :
    Calls Try.prog 29 #[.slice A n c] w fun e w' => e = .returned (.int .i64 er) ∧ Ext w w' := by
  subst h; exact runsCheck_any l A n c w hn hr hnl
theorem expanded_of (l : List Runs.Run) (U : List Nat) (n : Nat) (A : Option Addr) (c : Nat) (w : World) (hn : l.length = n) (hr : Rd w A (rws l)) (h : Runs.chk none 0 l = 0) (hU : Runs.unrun l = U) :
    Calls Try.prog 33 #[.slice A n c] w fun e w' => ∃ B c, e = .returned (.slice B U.length c) ∧ Rd w' B (u64s U) ∧ Ext w w' := by
  subst hU
  obtain ⟨z1, z2, z3⟩ := Runs.chk_zero l none 0 h (by omega)
  exact expanded_any l A n c w hn hr (by omega) (fun a ha => by have := (z1 a ha).1; omega) (by omega)
set_option maxHeartbeats 4000000 in
theorem runsReads_low_bad (a b : List Runs.Run) (t : Int) (A B : Option Addr) (n m ca cb : Nat) (W : World) (hn : a.length = n) (hm : b.length = m) (ha : Rd W A (rws a)) (hb : Rd W B (rws b)) (hAn : A = none → n = 0) (hBn : B = none → m = 0) (hmc : m ≤ cb)
    (hnl : n ≤ 140737488355328) (hml : m ≤ 140737488355328) (ht0 : -9223372036854775808 ≤ t) (ht1 : t ≤ 9223372036854775807)
    (h1 : Runs.chk none 0 a = 0) (ht : t < 0) (h2 : Runs.chk none 0 b ≠ 0) :
    Calls Try.prog 11 #[.slice A n ca, .slice B m cb, .int .i64 t] W fun e w' => e = .returned (.bool true) ∧ Ext W w' := by
  have hKa := chk_lt a none 0
  have hKb := chk_lt b none 0
  obtain ⟨z1, z2, z3⟩ := Runs.chk_zero a none 0 h1 (by omega)
  have hU64 : (Runs.unrun a).length ≤ 64 := by omega
  have H1 := hid (fun w' (hx : Ext W w') => expand_of a (Runs.unrun a) 0 n A ca w' hn (ha.keep hx) hnl (Runs.ex_ok a h1) h1)
  have H4 := hid (fun w' (hx : Ext W w') => runsCheck_of a 0 n A ca w' hn (ha.keep hx) hnl h1)
  have H6 := hid (fun w' (hx : Ext W w') => expanded_of a (Runs.unrun a) n A ca w' hn (ha.keep hx) h1 rfl)
  have hnI : (n : Int) ≤ 64 := by omega
  have HU := hid hU64
  have HAT := hid (fun w' (hx : Ext W w') => at_of a t _ _ n A ca w' hn (ha.keep hx) hnl ht0 ht1 (Runs.att_low a t h1 ht))
  have hJ := Runs.jo_bad2 a b h1 h2
  have HJ := hid (fun w' (hx : Ext W w') => joined_of a b [] _ A B n m ca cb w' hn hm (ha.keep hx) (hb.keep hx) hAn hBn hmc hnl hml hJ)
  have H7 := hid (fun w' (hx : Ext W w') => runsCheck_of b _ m B cb w' hm (hb.keep hx) hml rfl)
  obtain ⟨K, hK⟩ : ∃ K, K = Runs.chk none 0 b := ⟨_, rfl⟩
  rw [← hK] at HJ H7 hKb h2
  have hKI : 1 ≤ (K : Int) ∧ (K : Int) ≤ 6 := by omega
  have k1 : ((K : Int) == 0) = false := by rw [beq_eq_false_iff_ne]; omega
  have k2 : ((K : Int) != 0) = true := by simp; omega
  have k3 : ((K : Int) == (K : Int)) = true := by simp
  clear hJ hK h2 hKb
  clear h1 z1 z2 z3 hU64 hn hm ha hb hAn hBn hmc hnl hml ht0 ht1 hKa
  have huI : ((Runs.unrun a).length : Int) ≤ 64 := by have := HU.out; omega
  generalize Runs.unrun a = U at *
  generalize hu : U.length = u at *
  have HUE := hid hu.symm
  clear hu
  go_enter Try.func11, Try.ntmps11
  go_wp2_with fail
  refine (H1.out _ (ext_refl _)).mono ?_
  rintro e w1 ⟨B1, c1, rfl, r1, x1⟩
  have R1 := hid r1
  have X1 := hid x1
  clear r1 x1
  go_wp2_with fail
  refine (HAT.out _ X1.out).mono ?_
  rintro e w2 ⟨rfl, x2⟩
  replace R1 := hid (R1.out.keep x2)
  have X2 := hid (X1.out.then x2)
  clear x2
  go_wp2_with fail
  refine (HJ.out _ X2.out).mono ?_
  rintro e w3 ⟨B3, c3, rfl, r3, x3⟩
  have R3 := hid r3
  replace R1 := hid (R1.out.keep x3)
  have X3 := hid (X2.out.then x3)
  clear r3 x3
  go_wp2_with fail
  refine (H4.out _ X3.out).mono ?_
  rintro e w4 ⟨rfl, x4⟩
  replace R1 := hid (R1.out.keep x4)
  replace R3 := hid (R3.out.keep x4)
  have X4 := hid (X3.out.then x4)
  clear x4
  go_wp2_with fail
  refine (runsBegun_any _).mono ?_
  rintro e w5 ⟨rfl, x5⟩
  replace R1 := hid (R1.out.keep x5)
  replace R3 := hid (R3.out.keep x5)
  have X5 := hid (X4.out.then x5)
  clear x5
  go_wp2_with fail
  refine (H6.out _ X5.out).mono ?_
  rintro e w6 ⟨B6, c6, rfl, r6, x6⟩
  have R6 := hid r6
  replace R1 := hid (R1.out.keep x6)
  replace R3 := hid (R3.out.keep x6)
  have X6 := hid (X5.out.then x6)
  clear r6 x6
  go_wp2_with fail
  refine (H7.out _ X6.out).mono ?_
  rintro e w7 ⟨rfl, x7⟩
  replace R1 := hid (R1.out.keep x7)
  replace R3 := hid (R3.out.keep x7)
  replace R6 := hid (R6.out.keep x7)
  have X7 := hid (X6.out.then x7)
  clear x7
  go_wp2_with fail
  refine (sameNums_of U U _ _ _ _ _ _ _ HUE.out.symm HUE.out.symm R1.out R6.out (by have := HU.out; omega) true (by simp [sameNums])).mono ?_
  rintro e wN ⟨rfl, xN⟩
  have X8 := hid (X7.out.then xN)
  clear xN
  go_wp2
  go_returns
  exact ⟨rfl, X8.out⟩
set_option maxHeartbeats 4000000 in
theorem runsReads_low_many (a b : List Runs.Run) (t : Int) (A B : Option Addr) (n m ca cb : Nat) (W : World) (hn : a.length = n) (hm : b.length = m) (ha : Rd W A (rws a)) (hb : Rd W B (rws b)) (hAn : A = none → n = 0) (hBn : B = none → m = 0) (hmc : m ≤ cb)
    (hnl : n ≤ 140737488355328) (hml : m ≤ 140737488355328) (ht0 : -9223372036854775808 ≤ t) (ht1 : t ≤ 9223372036854775807)
    (h1 : Runs.chk none 0 a = 0) (ht : t < 0) (h2 : Runs.chk none 0 b = 0) (h3 : ¬ (Runs.unrun a ++ Runs.unrun b).length ≤ 64) :
    Calls Try.prog 11 #[.slice A n ca, .slice B m cb, .int .i64 t] W fun e w' => e = .returned (.bool true) ∧ Ext W w' := by
  have hKa := chk_lt a none 0
  have hKb := chk_lt b none 0
  obtain ⟨z1, z2, z3⟩ := Runs.chk_zero a none 0 h1 (by omega)
  have hU64 : (Runs.unrun a).length ≤ 64 := by omega
  have H1 := hid (fun w' (hx : Ext W w') => expand_of a (Runs.unrun a) 0 n A ca w' hn (ha.keep hx) hnl (Runs.ex_ok a h1) h1)
  have H4 := hid (fun w' (hx : Ext W w') => runsCheck_of a 0 n A ca w' hn (ha.keep hx) hnl h1)
  have H6 := hid (fun w' (hx : Ext W w') => expanded_of a (Runs.unrun a) n A ca w' hn (ha.keep hx) h1 rfl)
  have hnI : (n : Int) ≤ 64 := by omega
  have HU := hid hU64
  have HAT := hid (fun w' (hx : Ext W w') => at_of a t _ _ n A ca w' hn (ha.keep hx) hnl ht0 ht1 (Runs.att_low a t h1 ht))
  have hJ := Runs.jo_ok a b h1 h2
  rw [if_neg h3] at hJ
  have HJ := hid (fun w' (hx : Ext W w') => joined_of a b [] 2 A B n m ca cb w' hn hm (ha.keep hx) (hb.keep hx) hAn hBn hmc hnl hml hJ)
  have H7 := hid (fun w' (hx : Ext W w') => runsCheck_of b 0 m B cb w' hm (hb.keep hx) hml h2)
  have H8 := hid (fun w' (hx : Ext W w') => expanded_of b (Runs.unrun b) m B cb w' hm (hb.keep hx) h2 rfl)
  have hVb := (Runs.chk_zero b none 0 h2 (by omega)).2.1
  rw [List.length_append] at h3
  have h3I : 64 < ((Runs.unrun a).length : Int) + ((Runs.unrun b).length : Int) := by omega
  have HV := hid (show (Runs.unrun b).length ≤ 64 by omega)
  have hVI : ((Runs.unrun b).length : Int) ≤ 64 := by omega
  clear hJ h2 hKb h3 hVb
  clear h1 z1 z2 z3 hU64 hn hm ha hb hAn hBn hmc hnl hml ht0 ht1 hKa
  have huI : ((Runs.unrun a).length : Int) ≤ 64 := by have := HU.out; omega
  generalize Runs.unrun a = U at *
  generalize hu : U.length = u at *
  have HUE := hid hu.symm
  clear hu
  go_enter Try.func11, Try.ntmps11
  go_wp2_with fail
  refine (H1.out _ (ext_refl _)).mono ?_
  rintro e w1 ⟨B1, c1, rfl, r1, x1⟩
  have R1 := hid r1
  have X1 := hid x1
  clear r1 x1
  go_wp2_with fail
  refine (HAT.out _ X1.out).mono ?_
  rintro e w2 ⟨rfl, x2⟩
  replace R1 := hid (R1.out.keep x2)
  have X2 := hid (X1.out.then x2)
  clear x2
  go_wp2_with fail
  refine (HJ.out _ X2.out).mono ?_
  rintro e w3 ⟨B3, c3, rfl, r3, x3⟩
  have R3 := hid r3
  replace R1 := hid (R1.out.keep x3)
  have X3 := hid (X2.out.then x3)
  clear r3 x3
  go_wp2_with fail
  refine (H4.out _ X3.out).mono ?_
  rintro e w4 ⟨rfl, x4⟩
  replace R1 := hid (R1.out.keep x4)
  replace R3 := hid (R3.out.keep x4)
  have X4 := hid (X3.out.then x4)
  clear x4
  go_wp2_with fail
  refine (runsBegun_any _).mono ?_
  rintro e w5 ⟨rfl, x5⟩
  replace R1 := hid (R1.out.keep x5)
  replace R3 := hid (R3.out.keep x5)
  have X5 := hid (X4.out.then x5)
  clear x5
  go_wp2_with fail
  refine (H6.out _ X5.out).mono ?_
  rintro e w6 ⟨B6, c6, rfl, r6, x6⟩
  have R6 := hid r6
  replace R1 := hid (R1.out.keep x6)
  replace R3 := hid (R3.out.keep x6)
  have X6 := hid (X5.out.then x6)
  clear r6 x6
  go_wp2_with fail
  refine (H7.out _ X6.out).mono ?_
  rintro e w7 ⟨rfl, x7⟩
  replace R1 := hid (R1.out.keep x7)
  replace R3 := hid (R3.out.keep x7)
  replace R6 := hid (R6.out.keep x7)
  have X7 := hid (X6.out.then x7)
  clear x7
  have HNIL6 := hid (show _ → u = 0 from fun h => by rw [HUE.out]; exact rd_none R6.out h)
  go_wp2_with (first
    | (at_builtin; go_loud (refine wpList_app rfl (.tmp 110) (.tmp 111) rowU64 rfl _ 0 [] rfl (own_new (base := w7.heap.size) (n := 0) rfl rfl (Nat.le_refl _) (by decide)) _ u (u64s U) rfl (Src.rd Try.underlying36 _ u c6 _ (by rw [u64s_len, HUE.out, Nat.mul_one]) (R6.out.keep (Ext.new (ext_refl w7) _)) (u64s_one _) HNIL6.out) (by have := HU.out; simp only [maxLen]; omega) (by have := HU.out; omega) (by simp) ?_; intro v8 w8 hown8 hgrow8 hat8 hbel8; have HO8 := hid hown8; have E8 : Hid (Ext w7 w8) := hid ((Ext.new (ext_refl w7) _).trans hbel8); clear hown8 hgrow8 hat8 hbel8))
    | (go_at_call 33; refine (H8.out _ (X7.out.then E8.out)).mono ?_; rintro e w9 ⟨B9, c9, rfl, r9, x9⟩; have R9 := hid r9; replace HO8 := hid (own_ext HO8.out x9); have E9 : Hid (Ext w7 w9) := hid (E8.out.then x9); have HNIL9 := hid (rd_none R9.out); clear r9 x9)
    | (at_builtin; go_loud (refine wpList_app rfl (.tmp 112) (.tmp 114) rowU64 rfl _ (0 + u) ([] ++ u64s U) rfl HO8.out _ (Runs.unrun b).length (u64s (Runs.unrun b)) rfl (Src.rd Try.underlying36 _ _ c9 _ (by rw [u64s_len, Nat.mul_one]) R9.out (u64s_one _) HNIL9.out) (by have := HU.out; have := HV.out; simp only [maxLen]; omega) (by have := HU.out; have := HV.out; omega) E9.out.size ?_; intro v10 w10 hown10 hgrow10 hat10 hbel10; rw [Nat.zero_add, List.nil_append, ← u64s_app] at hown10; obtain ⟨A10, c10, rfl, r10, _, _, _⟩ := Rd.owned hown10; have R10 := hid r10; have E10 : Hid (Ext w7 w10) := hid (E9.out.trans hbel10); replace R1 := hid (R1.out.keep E10.out); replace R3 := hid (R3.out.keep E10.out); replace R6 := hid (R6.out.keep E10.out); have X10 := hid (X7.out.then E10.out); clear hown10 hgrow10 hat10 hbel10 r10)))
  refine (sameNums_of U U _ _ _ _ _ _ _ HUE.out.symm HUE.out.symm R1.out R6.out (by have := HU.out; omega) true (by simp [sameNums])).mono ?_
  rintro e wN ⟨rfl, xN⟩
  have X11 := hid (X10.out.then xN)
  clear xN
  go_wp2
  go_returns
  exact ⟨rfl, X11.out⟩
set_option maxHeartbeats 4000000 in
theorem runsReads_low_ok (a b : List Runs.Run) (t : Int) (A B : Option Addr) (n m ca cb : Nat) (W : World) (hn : a.length = n) (hm : b.length = m) (ha : Rd W A (rws a)) (hb : Rd W B (rws b)) (hAn : A = none → n = 0) (hBn : B = none → m = 0) (hmc : m ≤ cb)
    (hnl : n ≤ 140737488355328) (hml : m ≤ 140737488355328) (ht0 : -9223372036854775808 ≤ t) (ht1 : t ≤ 9223372036854775807)
    (h1 : Runs.chk none 0 a = 0) (ht : t < 0) (h2 : Runs.chk none 0 b = 0) (h3 : (Runs.unrun a ++ Runs.unrun b).length ≤ 64) :
    Calls Try.prog 11 #[.slice A n ca, .slice B m cb, .int .i64 t] W fun e w' => e = .returned (.bool true) ∧ Ext W w' := by
  have hKa := chk_lt a none 0
  have hKb := chk_lt b none 0
  obtain ⟨z1, z2, z3⟩ := Runs.chk_zero a none 0 h1 (by omega)
  have hU64 : (Runs.unrun a).length ≤ 64 := by omega
  have H1 := hid (fun w' (hx : Ext W w') => expand_of a (Runs.unrun a) 0 n A ca w' hn (ha.keep hx) hnl (Runs.ex_ok a h1) h1)
  have H4 := hid (fun w' (hx : Ext W w') => runsCheck_of a 0 n A ca w' hn (ha.keep hx) hnl h1)
  have H6 := hid (fun w' (hx : Ext W w') => expanded_of a (Runs.unrun a) n A ca w' hn (ha.keep hx) h1 rfl)
  have hnI : (n : Int) ≤ 64 := by omega
  have HU := hid hU64
  have HAT := hid (fun w' (hx : Ext W w') => at_of a t _ _ n A ca w' hn (ha.keep hx) hnl ht0 ht1 (Runs.att_low a t h1 ht))
  have hJ := Runs.jo_ok a b h1 h2
  rw [if_pos h3] at hJ
  have HJ := hid (fun w' (hx : Ext W w') => joined_of a b _ 0 A B n m ca cb w' hn hm (ha.keep hx) (hb.keep hx) hAn hBn hmc hnl hml hJ)
  have H7 := hid (fun w' (hx : Ext W w') => runsCheck_of b 0 m B cb w' hm (hb.keep hx) hml h2)
  have H8 := hid (fun w' (hx : Ext W w') => expanded_of b (Runs.unrun b) m B cb w' hm (hb.keep hx) h2 rfl)
  have hVb := (Runs.chk_zero b none 0 h2 (by omega)).2.1
  have H9 := hid (fun (w' : World) (C : Option Addr) (c : Nat) (hr : Rd w' C (u64s (Runs.unrun a ++ Runs.unrun b))) => runsOf_any (Runs.unrun a ++ Runs.unrun b) C _ c w' (List.length_append) hr (by rw [← List.length_append]; omega))
  have HRL := hid (show (Runs.runs (Runs.unrun a ++ Runs.unrun b)).length ≤ 64 from Nat.le_trans (Runs.runs_len _) h3)
  obtain ⟨Z, hZ⟩ : ∃ Z, Z = Runs.runs (Runs.unrun a ++ Runs.unrun b) := ⟨_, rfl⟩
  rw [← hZ] at HJ H9 HRL
  rw [List.length_append] at h3
  have h3I : ((Runs.unrun a).length : Int) + ((Runs.unrun b).length : Int) ≤ 64 := by omega
  have HV := hid (show (Runs.unrun b).length ≤ 64 by omega)
  have hVI : ((Runs.unrun b).length : Int) ≤ 64 := by omega
  clear hJ h2 hKb h3 hVb hZ
  clear h1 z1 z2 z3 hU64 hn hm ha hb hAn hBn hmc hnl hml ht0 ht1 hKa
  have huI : ((Runs.unrun a).length : Int) ≤ 64 := by have := HU.out; omega
  generalize Runs.unrun a = U at *
  generalize hu : U.length = u at *
  have HUE := hid hu.symm
  clear hu
  go_enter Try.func11, Try.ntmps11
  go_wp2_with fail
  refine (H1.out _ (ext_refl _)).mono ?_
  rintro e w1 ⟨B1, c1, rfl, r1, x1⟩
  have R1 := hid r1
  have X1 := hid x1
  clear r1 x1
  go_wp2_with fail
  refine (HAT.out _ X1.out).mono ?_
  rintro e w2 ⟨rfl, x2⟩
  replace R1 := hid (R1.out.keep x2)
  have X2 := hid (X1.out.then x2)
  clear x2
  go_wp2_with fail
  refine (HJ.out _ X2.out).mono ?_
  rintro e w3 ⟨B3, c3, rfl, r3, x3⟩
  have R3 := hid r3
  replace R1 := hid (R1.out.keep x3)
  have X3 := hid (X2.out.then x3)
  clear r3 x3
  go_wp2_with fail
  refine (H4.out _ X3.out).mono ?_
  rintro e w4 ⟨rfl, x4⟩
  replace R1 := hid (R1.out.keep x4)
  replace R3 := hid (R3.out.keep x4)
  have X4 := hid (X3.out.then x4)
  clear x4
  go_wp2_with fail
  refine (runsBegun_any _).mono ?_
  rintro e w5 ⟨rfl, x5⟩
  replace R1 := hid (R1.out.keep x5)
  replace R3 := hid (R3.out.keep x5)
  have X5 := hid (X4.out.then x5)
  clear x5
  go_wp2_with fail
  refine (H6.out _ X5.out).mono ?_
  rintro e w6 ⟨B6, c6, rfl, r6, x6⟩
  have R6 := hid r6
  replace R1 := hid (R1.out.keep x6)
  replace R3 := hid (R3.out.keep x6)
  have X6 := hid (X5.out.then x6)
  clear r6 x6
  go_wp2_with fail
  refine (H7.out _ X6.out).mono ?_
  rintro e w7 ⟨rfl, x7⟩
  replace R1 := hid (R1.out.keep x7)
  replace R3 := hid (R3.out.keep x7)
  replace R6 := hid (R6.out.keep x7)
  have X7 := hid (X6.out.then x7)
  clear x7
  have HNIL6 := hid (show _ → u = 0 from fun h => by rw [HUE.out]; exact rd_none R6.out h)
  go_wp2_with (first
    | (at_builtin; go_loud (refine wpList_app rfl (.tmp 110) (.tmp 111) rowU64 rfl _ 0 [] rfl (own_new (base := w7.heap.size) (n := 0) rfl rfl (Nat.le_refl _) (by decide)) _ u (u64s U) rfl (Src.rd Try.underlying36 _ u c6 _ (by rw [u64s_len, HUE.out, Nat.mul_one]) (R6.out.keep (Ext.new (ext_refl w7) _)) (u64s_one _) HNIL6.out) (by have := HU.out; simp only [maxLen]; omega) (by have := HU.out; omega) (by simp) ?_; intro v8 w8 hown8 hgrow8 hat8 hbel8; have HO8 := hid hown8; have E8 : Hid (Ext w7 w8) := hid ((Ext.new (ext_refl w7) _).trans hbel8); clear hown8 hgrow8 hat8 hbel8))
    | (go_at_call 33; refine (H8.out _ (X7.out.then E8.out)).mono ?_; rintro e w9 ⟨B9, c9, rfl, r9, x9⟩; have R9 := hid r9; replace HO8 := hid (own_ext HO8.out x9); have E9 : Hid (Ext w7 w9) := hid (E8.out.then x9); have HNIL9 := hid (rd_none R9.out); clear r9 x9)
    | (at_builtin; go_loud (refine wpList_app rfl (.tmp 112) (.tmp 114) rowU64 rfl _ (0 + u) ([] ++ u64s U) rfl HO8.out _ (Runs.unrun b).length (u64s (Runs.unrun b)) rfl (Src.rd Try.underlying36 _ _ c9 _ (by rw [u64s_len, Nat.mul_one]) R9.out (u64s_one _) HNIL9.out) (by have := HU.out; have := HV.out; simp only [maxLen]; omega) (by have := HU.out; have := HV.out; omega) E9.out.size ?_; intro v10 w10 hown10 hgrow10 hat10 hbel10; rw [Nat.zero_add, List.nil_append, ← u64s_app] at hown10; obtain ⟨A10, c10, rfl, r10, _, _, _⟩ := Rd.owned hown10; have R10 := hid r10; have E10 : Hid (Ext w7 w10) := hid (E9.out.trans hbel10); replace R1 := hid (R1.out.keep E10.out); replace R3 := hid (R3.out.keep E10.out); replace R6 := hid (R6.out.keep E10.out); have X10 := hid (X7.out.then E10.out); clear hown10 hgrow10 hat10 hbel10 r10)))
  refine (sameNums_of U U _ _ _ _ _ _ _ HUE.out.symm HUE.out.symm R1.out R6.out (by have := HU.out; omega) true (by simp [sameNums])).mono ?_
  rintro e wN ⟨rfl, xN⟩
  replace R3 := hid (R3.out.keep xN)
  replace R10 := hid (R10.out.keep xN)
  have X11 := hid (X10.out.then xN)
  clear xN
  go_wp2_with fail
  refine (H9.out _ _ _ R10.out).mono ?_
  rintro e w12 ⟨B12, c12, rfl, r12, x12⟩
  have R12 := hid r12
  replace R3 := hid (R3.out.keep x12)
  have X12 := hid (X11.out.then x12)
  clear r12 x12
  go_wp2_with fail
  refine (sameRuns_of Z Z _ _ _ _ _ _ _ rfl rfl R3.out R12.out (by have := HRL.out; omega) true (by simp [sameRuns])).mono ?_
  rintro e w13 ⟨rfl, x13⟩
  have X13 := hid (X12.out.then x13)
  clear x13
  go_wp2
  go_returns
  exact ⟨rfl, X13.out⟩
set_option maxHeartbeats 4000000 in
theorem runsReads_high_bad (a b : List Runs.Run) (t : Int) (A B : Option Addr) (n m ca cb : Nat) (W : World) (hn : a.length = n) (hm : b.length = m) (ha : Rd W A (rws a)) (hb : Rd W B (rws b)) (hAn : A = none → n = 0) (hBn : B = none → m = 0) (hmc : m ≤ cb)
    (hnl : n ≤ 140737488355328) (hml : m ≤ 140737488355328) (ht0 : -9223372036854775808 ≤ t) (ht1 : t ≤ 9223372036854775807)
    (h1 : Runs.chk none 0 a = 0) (ht : ((Runs.unrun a).length : Int) ≤ t) (h2 : Runs.chk none 0 b ≠ 0) :
    Calls Try.prog 11 #[.slice A n ca, .slice B m cb, .int .i64 t] W fun e w' => e = .returned (.bool true) ∧ Ext W w' := by
  have hKa := chk_lt a none 0
  have hKb := chk_lt b none 0
  obtain ⟨z1, z2, z3⟩ := Runs.chk_zero a none 0 h1 (by omega)
  have hU64 : (Runs.unrun a).length ≤ 64 := by omega
  have H1 := hid (fun w' (hx : Ext W w') => expand_of a (Runs.unrun a) 0 n A ca w' hn (ha.keep hx) hnl (Runs.ex_ok a h1) h1)
  have H4 := hid (fun w' (hx : Ext W w') => runsCheck_of a 0 n A ca w' hn (ha.keep hx) hnl h1)
  have H6 := hid (fun w' (hx : Ext W w') => expanded_of a (Runs.unrun a) n A ca w' hn (ha.keep hx) h1 rfl)
  have hnI : (n : Int) ≤ 64 := by omega
  have HU := hid hU64
  have HAT := hid (fun w' (hx : Ext W w') => at_of a t _ _ n A ca w' hn (ha.keep hx) hnl ht0 ht1 (Runs.att_high a t h1 ht))
  have hn0 : decide (t < 0) = false := by rw [decide_eq_false_iff_not]; omega
  have hJ := Runs.jo_bad2 a b h1 h2
  have HJ := hid (fun w' (hx : Ext W w') => joined_of a b [] _ A B n m ca cb w' hn hm (ha.keep hx) (hb.keep hx) hAn hBn hmc hnl hml hJ)
  have H7 := hid (fun w' (hx : Ext W w') => runsCheck_of b _ m B cb w' hm (hb.keep hx) hml rfl)
  obtain ⟨K, hK⟩ : ∃ K, K = Runs.chk none 0 b := ⟨_, rfl⟩
  rw [← hK] at HJ H7 hKb h2
  have hKI : 1 ≤ (K : Int) ∧ (K : Int) ≤ 6 := by omega
  have k1 : ((K : Int) == 0) = false := by rw [beq_eq_false_iff_ne]; omega
  have k2 : ((K : Int) != 0) = true := by simp; omega
  have k3 : ((K : Int) == (K : Int)) = true := by simp
  clear hJ hK h2 hKb
  clear h1 z1 z2 z3 hU64 hn hm ha hb hAn hBn hmc hnl hml ht0 ht1 hKa
  have huI : ((Runs.unrun a).length : Int) ≤ 64 := by have := HU.out; omega
  generalize Runs.unrun a = U at *
  generalize hu : U.length = u at *
  have HUE := hid hu.symm
  clear hu
  go_enter Try.func11, Try.ntmps11
  go_wp2_with fail
  refine (H1.out _ (ext_refl _)).mono ?_
  rintro e w1 ⟨B1, c1, rfl, r1, x1⟩
  have R1 := hid r1
  have X1 := hid x1
  clear r1 x1
  go_wp2_with fail
  refine (HAT.out _ X1.out).mono ?_
  rintro e w2 ⟨rfl, x2⟩
  replace R1 := hid (R1.out.keep x2)
  have X2 := hid (X1.out.then x2)
  clear x2
  go_wp2_with fail
  refine (HJ.out _ X2.out).mono ?_
  rintro e w3 ⟨B3, c3, rfl, r3, x3⟩
  have R3 := hid r3
  replace R1 := hid (R1.out.keep x3)
  have X3 := hid (X2.out.then x3)
  clear r3 x3
  go_wp2_with fail
  refine (H4.out _ X3.out).mono ?_
  rintro e w4 ⟨rfl, x4⟩
  replace R1 := hid (R1.out.keep x4)
  replace R3 := hid (R3.out.keep x4)
  have X4 := hid (X3.out.then x4)
  clear x4
  go_wp2_with fail
  refine (runsBegun_any _).mono ?_
  rintro e w5 ⟨rfl, x5⟩
  replace R1 := hid (R1.out.keep x5)
  replace R3 := hid (R3.out.keep x5)
  have X5 := hid (X4.out.then x5)
  clear x5
  go_wp2_with fail
  refine (H6.out _ X5.out).mono ?_
  rintro e w6 ⟨B6, c6, rfl, r6, x6⟩
  have R6 := hid r6
  replace R1 := hid (R1.out.keep x6)
  replace R3 := hid (R3.out.keep x6)
  have X6 := hid (X5.out.then x6)
  clear r6 x6
  go_wp2_with fail
  refine (H7.out _ X6.out).mono ?_
  rintro e w7 ⟨rfl, x7⟩
  replace R1 := hid (R1.out.keep x7)
  replace R3 := hid (R3.out.keep x7)
  replace R6 := hid (R6.out.keep x7)
  have X7 := hid (X6.out.then x7)
  clear x7
  go_wp2_with fail
  refine (sameNums_of U U _ _ _ _ _ _ _ HUE.out.symm HUE.out.symm R1.out R6.out (by have := HU.out; omega) true (by simp [sameNums])).mono ?_
  rintro e wN ⟨rfl, xN⟩
  have X8 := hid (X7.out.then xN)
  clear xN
  go_wp2
  go_returns
  exact ⟨rfl, X8.out⟩
set_option maxHeartbeats 4000000 in
theorem runsReads_high_many (a b : List Runs.Run) (t : Int) (A B : Option Addr) (n m ca cb : Nat) (W : World) (hn : a.length = n) (hm : b.length = m) (ha : Rd W A (rws a)) (hb : Rd W B (rws b)) (hAn : A = none → n = 0) (hBn : B = none → m = 0) (hmc : m ≤ cb)
    (hnl : n ≤ 140737488355328) (hml : m ≤ 140737488355328) (ht0 : -9223372036854775808 ≤ t) (ht1 : t ≤ 9223372036854775807)
    (h1 : Runs.chk none 0 a = 0) (ht : ((Runs.unrun a).length : Int) ≤ t) (h2 : Runs.chk none 0 b = 0) (h3 : ¬ (Runs.unrun a ++ Runs.unrun b).length ≤ 64) :
    Calls Try.prog 11 #[.slice A n ca, .slice B m cb, .int .i64 t] W fun e w' => e = .returned (.bool true) ∧ Ext W w' := by
  have hKa := chk_lt a none 0
  have hKb := chk_lt b none 0
  obtain ⟨z1, z2, z3⟩ := Runs.chk_zero a none 0 h1 (by omega)
  have hU64 : (Runs.unrun a).length ≤ 64 := by omega
  have H1 := hid (fun w' (hx : Ext W w') => expand_of a (Runs.unrun a) 0 n A ca w' hn (ha.keep hx) hnl (Runs.ex_ok a h1) h1)
  have H4 := hid (fun w' (hx : Ext W w') => runsCheck_of a 0 n A ca w' hn (ha.keep hx) hnl h1)
  have H6 := hid (fun w' (hx : Ext W w') => expanded_of a (Runs.unrun a) n A ca w' hn (ha.keep hx) h1 rfl)
  have hnI : (n : Int) ≤ 64 := by omega
  have HU := hid hU64
  have HAT := hid (fun w' (hx : Ext W w') => at_of a t _ _ n A ca w' hn (ha.keep hx) hnl ht0 ht1 (Runs.att_high a t h1 ht))
  have hn0 : decide (t < 0) = false := by rw [decide_eq_false_iff_not]; omega
  have hJ := Runs.jo_ok a b h1 h2
  rw [if_neg h3] at hJ
  have HJ := hid (fun w' (hx : Ext W w') => joined_of a b [] 2 A B n m ca cb w' hn hm (ha.keep hx) (hb.keep hx) hAn hBn hmc hnl hml hJ)
  have H7 := hid (fun w' (hx : Ext W w') => runsCheck_of b 0 m B cb w' hm (hb.keep hx) hml h2)
  have H8 := hid (fun w' (hx : Ext W w') => expanded_of b (Runs.unrun b) m B cb w' hm (hb.keep hx) h2 rfl)
  have hVb := (Runs.chk_zero b none 0 h2 (by omega)).2.1
  rw [List.length_append] at h3
  have h3I : 64 < ((Runs.unrun a).length : Int) + ((Runs.unrun b).length : Int) := by omega
  have HV := hid (show (Runs.unrun b).length ≤ 64 by omega)
  have hVI : ((Runs.unrun b).length : Int) ≤ 64 := by omega
  clear hJ h2 hKb h3 hVb
  clear h1 z1 z2 z3 hU64 hn hm ha hb hAn hBn hmc hnl hml ht0 ht1 hKa
  have huI : ((Runs.unrun a).length : Int) ≤ 64 := by have := HU.out; omega
  generalize Runs.unrun a = U at *
  generalize hu : U.length = u at *
  have HUE := hid hu.symm
  clear hu
  go_enter Try.func11, Try.ntmps11
  go_wp2_with fail
  refine (H1.out _ (ext_refl _)).mono ?_
  rintro e w1 ⟨B1, c1, rfl, r1, x1⟩
  have R1 := hid r1
  have X1 := hid x1
  clear r1 x1
  go_wp2_with fail
  refine (HAT.out _ X1.out).mono ?_
  rintro e w2 ⟨rfl, x2⟩
  replace R1 := hid (R1.out.keep x2)
  have X2 := hid (X1.out.then x2)
  clear x2
  go_wp2_with fail
  refine (HJ.out _ X2.out).mono ?_
  rintro e w3 ⟨B3, c3, rfl, r3, x3⟩
  have R3 := hid r3
  replace R1 := hid (R1.out.keep x3)
  have X3 := hid (X2.out.then x3)
  clear r3 x3
  go_wp2_with fail
  refine (H4.out _ X3.out).mono ?_
  rintro e w4 ⟨rfl, x4⟩
  replace R1 := hid (R1.out.keep x4)
  replace R3 := hid (R3.out.keep x4)
  have X4 := hid (X3.out.then x4)
  clear x4
  go_wp2_with fail
  refine (runsBegun_any _).mono ?_
  rintro e w5 ⟨rfl, x5⟩
  replace R1 := hid (R1.out.keep x5)
  replace R3 := hid (R3.out.keep x5)
  have X5 := hid (X4.out.then x5)
  clear x5
  go_wp2_with fail
  refine (H6.out _ X5.out).mono ?_
  rintro e w6 ⟨B6, c6, rfl, r6, x6⟩
  have R6 := hid r6
  replace R1 := hid (R1.out.keep x6)
  replace R3 := hid (R3.out.keep x6)
  have X6 := hid (X5.out.then x6)
  clear r6 x6
  go_wp2_with fail
  refine (H7.out _ X6.out).mono ?_
  rintro e w7 ⟨rfl, x7⟩
  replace R1 := hid (R1.out.keep x7)
  replace R3 := hid (R3.out.keep x7)
  replace R6 := hid (R6.out.keep x7)
  have X7 := hid (X6.out.then x7)
  clear x7
  have HNIL6 := hid (show _ → u = 0 from fun h => by rw [HUE.out]; exact rd_none R6.out h)
  go_wp2_with (first
    | (at_builtin; go_loud (refine wpList_app rfl (.tmp 110) (.tmp 111) rowU64 rfl _ 0 [] rfl (own_new (base := w7.heap.size) (n := 0) rfl rfl (Nat.le_refl _) (by decide)) _ u (u64s U) rfl (Src.rd Try.underlying36 _ u c6 _ (by rw [u64s_len, HUE.out, Nat.mul_one]) (R6.out.keep (Ext.new (ext_refl w7) _)) (u64s_one _) HNIL6.out) (by have := HU.out; simp only [maxLen]; omega) (by have := HU.out; omega) (by simp) ?_; intro v8 w8 hown8 hgrow8 hat8 hbel8; have HO8 := hid hown8; have E8 : Hid (Ext w7 w8) := hid ((Ext.new (ext_refl w7) _).trans hbel8); clear hown8 hgrow8 hat8 hbel8))
    | (go_at_call 33; refine (H8.out _ (X7.out.then E8.out)).mono ?_; rintro e w9 ⟨B9, c9, rfl, r9, x9⟩; have R9 := hid r9; replace HO8 := hid (own_ext HO8.out x9); have E9 : Hid (Ext w7 w9) := hid (E8.out.then x9); have HNIL9 := hid (rd_none R9.out); clear r9 x9)
    | (at_builtin; go_loud (refine wpList_app rfl (.tmp 112) (.tmp 114) rowU64 rfl _ (0 + u) ([] ++ u64s U) rfl HO8.out _ (Runs.unrun b).length (u64s (Runs.unrun b)) rfl (Src.rd Try.underlying36 _ _ c9 _ (by rw [u64s_len, Nat.mul_one]) R9.out (u64s_one _) HNIL9.out) (by have := HU.out; have := HV.out; simp only [maxLen]; omega) (by have := HU.out; have := HV.out; omega) E9.out.size ?_; intro v10 w10 hown10 hgrow10 hat10 hbel10; rw [Nat.zero_add, List.nil_append, ← u64s_app] at hown10; obtain ⟨A10, c10, rfl, r10, _, _, _⟩ := Rd.owned hown10; have R10 := hid r10; have E10 : Hid (Ext w7 w10) := hid (E9.out.trans hbel10); replace R1 := hid (R1.out.keep E10.out); replace R3 := hid (R3.out.keep E10.out); replace R6 := hid (R6.out.keep E10.out); have X10 := hid (X7.out.then E10.out); clear hown10 hgrow10 hat10 hbel10 r10)))
  refine (sameNums_of U U _ _ _ _ _ _ _ HUE.out.symm HUE.out.symm R1.out R6.out (by have := HU.out; omega) true (by simp [sameNums])).mono ?_
  rintro e wN ⟨rfl, xN⟩
  have X11 := hid (X10.out.then xN)
  clear xN
  go_wp2
  go_returns
  exact ⟨rfl, X11.out⟩
set_option maxHeartbeats 4000000 in
theorem runsReads_high_ok (a b : List Runs.Run) (t : Int) (A B : Option Addr) (n m ca cb : Nat) (W : World) (hn : a.length = n) (hm : b.length = m) (ha : Rd W A (rws a)) (hb : Rd W B (rws b)) (hAn : A = none → n = 0) (hBn : B = none → m = 0) (hmc : m ≤ cb)
    (hnl : n ≤ 140737488355328) (hml : m ≤ 140737488355328) (ht0 : -9223372036854775808 ≤ t) (ht1 : t ≤ 9223372036854775807)
    (h1 : Runs.chk none 0 a = 0) (ht : ((Runs.unrun a).length : Int) ≤ t) (h2 : Runs.chk none 0 b = 0) (h3 : (Runs.unrun a ++ Runs.unrun b).length ≤ 64) :
    Calls Try.prog 11 #[.slice A n ca, .slice B m cb, .int .i64 t] W fun e w' => e = .returned (.bool true) ∧ Ext W w' := by
  have hKa := chk_lt a none 0
  have hKb := chk_lt b none 0
  obtain ⟨z1, z2, z3⟩ := Runs.chk_zero a none 0 h1 (by omega)
  have hU64 : (Runs.unrun a).length ≤ 64 := by omega
  have H1 := hid (fun w' (hx : Ext W w') => expand_of a (Runs.unrun a) 0 n A ca w' hn (ha.keep hx) hnl (Runs.ex_ok a h1) h1)
  have H4 := hid (fun w' (hx : Ext W w') => runsCheck_of a 0 n A ca w' hn (ha.keep hx) hnl h1)
  have H6 := hid (fun w' (hx : Ext W w') => expanded_of a (Runs.unrun a) n A ca w' hn (ha.keep hx) h1 rfl)
  have hnI : (n : Int) ≤ 64 := by omega
  have HU := hid hU64
  have HAT := hid (fun w' (hx : Ext W w') => at_of a t _ _ n A ca w' hn (ha.keep hx) hnl ht0 ht1 (Runs.att_high a t h1 ht))
  have hn0 : decide (t < 0) = false := by rw [decide_eq_false_iff_not]; omega
  have hJ := Runs.jo_ok a b h1 h2
  rw [if_pos h3] at hJ
  have HJ := hid (fun w' (hx : Ext W w') => joined_of a b _ 0 A B n m ca cb w' hn hm (ha.keep hx) (hb.keep hx) hAn hBn hmc hnl hml hJ)
  have H7 := hid (fun w' (hx : Ext W w') => runsCheck_of b 0 m B cb w' hm (hb.keep hx) hml h2)
  have H8 := hid (fun w' (hx : Ext W w') => expanded_of b (Runs.unrun b) m B cb w' hm (hb.keep hx) h2 rfl)
  have hVb := (Runs.chk_zero b none 0 h2 (by omega)).2.1
  have H9 := hid (fun (w' : World) (C : Option Addr) (c : Nat) (hr : Rd w' C (u64s (Runs.unrun a ++ Runs.unrun b))) => runsOf_any (Runs.unrun a ++ Runs.unrun b) C _ c w' (List.length_append) hr (by rw [← List.length_append]; omega))
  have HRL := hid (show (Runs.runs (Runs.unrun a ++ Runs.unrun b)).length ≤ 64 from Nat.le_trans (Runs.runs_len _) h3)
  obtain ⟨Z, hZ⟩ : ∃ Z, Z = Runs.runs (Runs.unrun a ++ Runs.unrun b) := ⟨_, rfl⟩
  rw [← hZ] at HJ H9 HRL
  rw [List.length_append] at h3
  have h3I : ((Runs.unrun a).length : Int) + ((Runs.unrun b).length : Int) ≤ 64 := by omega
  have HV := hid (show (Runs.unrun b).length ≤ 64 by omega)
  have hVI : ((Runs.unrun b).length : Int) ≤ 64 := by omega
  clear hJ h2 hKb h3 hVb hZ
  clear h1 z1 z2 z3 hU64 hn hm ha hb hAn hBn hmc hnl hml ht0 ht1 hKa
  have huI : ((Runs.unrun a).length : Int) ≤ 64 := by have := HU.out; omega
  generalize Runs.unrun a = U at *
  generalize hu : U.length = u at *
  have HUE := hid hu.symm
  clear hu
  go_enter Try.func11, Try.ntmps11
  go_wp2_with fail
  refine (H1.out _ (ext_refl _)).mono ?_
  rintro e w1 ⟨B1, c1, rfl, r1, x1⟩
  have R1 := hid r1
  have X1 := hid x1
  clear r1 x1
  go_wp2_with fail
  refine (HAT.out _ X1.out).mono ?_
  rintro e w2 ⟨rfl, x2⟩
  replace R1 := hid (R1.out.keep x2)
  have X2 := hid (X1.out.then x2)
  clear x2
  go_wp2_with fail
  refine (HJ.out _ X2.out).mono ?_
  rintro e w3 ⟨B3, c3, rfl, r3, x3⟩
  have R3 := hid r3
  replace R1 := hid (R1.out.keep x3)
  have X3 := hid (X2.out.then x3)
  clear r3 x3
  go_wp2_with fail
  refine (H4.out _ X3.out).mono ?_
  rintro e w4 ⟨rfl, x4⟩
  replace R1 := hid (R1.out.keep x4)
  replace R3 := hid (R3.out.keep x4)
  have X4 := hid (X3.out.then x4)
  clear x4
  go_wp2_with fail
  refine (runsBegun_any _).mono ?_
  rintro e w5 ⟨rfl, x5⟩
  replace R1 := hid (R1.out.keep x5)
  replace R3 := hid (R3.out.keep x5)
  have X5 := hid (X4.out.then x5)
  clear x5
  go_wp2_with fail
  refine (H6.out _ X5.out).mono ?_
  rintro e w6 ⟨B6, c6, rfl, r6, x6⟩
  have R6 := hid r6
  replace R1 := hid (R1.out.keep x6)
  replace R3 := hid (R3.out.keep x6)
  have X6 := hid (X5.out.then x6)
  clear r6 x6
  go_wp2_with fail
  refine (H7.out _ X6.out).mono ?_
  rintro e w7 ⟨rfl, x7⟩
  replace R1 := hid (R1.out.keep x7)
  replace R3 := hid (R3.out.keep x7)
  replace R6 := hid (R6.out.keep x7)
  have X7 := hid (X6.out.then x7)
  clear x7
  have HNIL6 := hid (show _ → u = 0 from fun h => by rw [HUE.out]; exact rd_none R6.out h)
  go_wp2_with (first
    | (at_builtin; go_loud (refine wpList_app rfl (.tmp 110) (.tmp 111) rowU64 rfl _ 0 [] rfl (own_new (base := w7.heap.size) (n := 0) rfl rfl (Nat.le_refl _) (by decide)) _ u (u64s U) rfl (Src.rd Try.underlying36 _ u c6 _ (by rw [u64s_len, HUE.out, Nat.mul_one]) (R6.out.keep (Ext.new (ext_refl w7) _)) (u64s_one _) HNIL6.out) (by have := HU.out; simp only [maxLen]; omega) (by have := HU.out; omega) (by simp) ?_; intro v8 w8 hown8 hgrow8 hat8 hbel8; have HO8 := hid hown8; have E8 : Hid (Ext w7 w8) := hid ((Ext.new (ext_refl w7) _).trans hbel8); clear hown8 hgrow8 hat8 hbel8))
    | (go_at_call 33; refine (H8.out _ (X7.out.then E8.out)).mono ?_; rintro e w9 ⟨B9, c9, rfl, r9, x9⟩; have R9 := hid r9; replace HO8 := hid (own_ext HO8.out x9); have E9 : Hid (Ext w7 w9) := hid (E8.out.then x9); have HNIL9 := hid (rd_none R9.out); clear r9 x9)
    | (at_builtin; go_loud (refine wpList_app rfl (.tmp 112) (.tmp 114) rowU64 rfl _ (0 + u) ([] ++ u64s U) rfl HO8.out _ (Runs.unrun b).length (u64s (Runs.unrun b)) rfl (Src.rd Try.underlying36 _ _ c9 _ (by rw [u64s_len, Nat.mul_one]) R9.out (u64s_one _) HNIL9.out) (by have := HU.out; have := HV.out; simp only [maxLen]; omega) (by have := HU.out; have := HV.out; omega) E9.out.size ?_; intro v10 w10 hown10 hgrow10 hat10 hbel10; rw [Nat.zero_add, List.nil_append, ← u64s_app] at hown10; obtain ⟨A10, c10, rfl, r10, _, _, _⟩ := Rd.owned hown10; have R10 := hid r10; have E10 : Hid (Ext w7 w10) := hid (E9.out.trans hbel10); replace R1 := hid (R1.out.keep E10.out); replace R3 := hid (R3.out.keep E10.out); replace R6 := hid (R6.out.keep E10.out); have X10 := hid (X7.out.then E10.out); clear hown10 hgrow10 hat10 hbel10 r10)))
  refine (sameNums_of U U _ _ _ _ _ _ _ HUE.out.symm HUE.out.symm R1.out R6.out (by have := HU.out; omega) true (by simp [sameNums])).mono ?_
  rintro e wN ⟨rfl, xN⟩
  replace R3 := hid (R3.out.keep xN)
  replace R10 := hid (R10.out.keep xN)
  have X11 := hid (X10.out.then xN)
  clear xN
  go_wp2_with fail
  refine (H9.out _ _ _ R10.out).mono ?_
  rintro e w12 ⟨B12, c12, rfl, r12, x12⟩
  have R12 := hid r12
  replace R3 := hid (R3.out.keep x12)
  have X12 := hid (X11.out.then x12)
  clear r12 x12
  go_wp2_with fail
  refine (sameRuns_of Z Z _ _ _ _ _ _ _ rfl rfl R3.out R12.out (by have := HRL.out; omega) true (by simp [sameRuns])).mono ?_
  rintro e w13 ⟨rfl, x13⟩
  have X13 := hid (X12.out.then x13)
  clear x13
  go_wp2
  go_returns
  exact ⟨rfl, X13.out⟩
set_option maxHeartbeats 4000000 in
theorem runsReads_in_bad (a b : List Runs.Run) (T : Nat) (A B : Option Addr) (n m ca cb : Nat) (W : World) (hn : a.length = n) (hm : b.length = m) (ha : Rd W A (rws a)) (hb : Rd W B (rws b)) (hAn : A = none → n = 0) (hBn : B = none → m = 0) (hmc : m ≤ cb)
    (hnl : n ≤ 140737488355328) (hml : m ≤ 140737488355328) (ht0 : -9223372036854775808 ≤ (T : Int)) (ht1 : (T : Int) ≤ 9223372036854775807)
    (h1 : Runs.chk none 0 a = 0) (ht : T < (Runs.unrun a).length) (h2 : Runs.chk none 0 b ≠ 0) :
    Calls Try.prog 11 #[.slice A n ca, .slice B m cb, .int .i64 (T : Int)] W fun e w' => e = .returned (.bool true) ∧ Ext W w' := by
  have hKa := chk_lt a none 0
  have hKb := chk_lt b none 0
  obtain ⟨z1, z2, z3⟩ := Runs.chk_zero a none 0 h1 (by omega)
  have hU64 : (Runs.unrun a).length ≤ 64 := by omega
  have H1 := hid (fun w' (hx : Ext W w') => expand_of a (Runs.unrun a) 0 n A ca w' hn (ha.keep hx) hnl (Runs.ex_ok a h1) h1)
  have H4 := hid (fun w' (hx : Ext W w') => runsCheck_of a 0 n A ca w' hn (ha.keep hx) hnl h1)
  have H6 := hid (fun w' (hx : Ext W w') => expanded_of a (Runs.unrun a) n A ca w' hn (ha.keep hx) h1 rfl)
  have hnI : (n : Int) ≤ 64 := by omega
  have HU := hid hU64
  obtain ⟨vv, hvv⟩ : ∃ vv, (Runs.unrun a)[T]? = some vv := ⟨_, List.getElem?_eq_getElem ht⟩
  have HAT := hid (fun w' (hx : Ext W w') => at_of a (T : Int) _ _ n A ca w' hn (ha.keep hx) hnl ht0 ht1 (Runs.att_in a T vv h1 hvv))
  have HTU := hid ht
  have HVV := hid hvv
  clear ht hvv
  have hJ := Runs.jo_bad2 a b h1 h2
  have HJ := hid (fun w' (hx : Ext W w') => joined_of a b [] _ A B n m ca cb w' hn hm (ha.keep hx) (hb.keep hx) hAn hBn hmc hnl hml hJ)
  have H7 := hid (fun w' (hx : Ext W w') => runsCheck_of b _ m B cb w' hm (hb.keep hx) hml rfl)
  obtain ⟨K, hK⟩ : ∃ K, K = Runs.chk none 0 b := ⟨_, rfl⟩
  rw [← hK] at HJ H7 hKb h2
  have hKI : 1 ≤ (K : Int) ∧ (K : Int) ≤ 6 := by omega
  have k1 : ((K : Int) == 0) = false := by rw [beq_eq_false_iff_ne]; omega
  have k2 : ((K : Int) != 0) = true := by simp; omega
  have k3 : ((K : Int) == (K : Int)) = true := by simp
  clear hJ hK h2 hKb
  clear h1 z1 z2 z3 hU64 hn hm ha hb hAn hBn hmc hnl hml ht0 ht1 hKa
  have huI : ((Runs.unrun a).length : Int) ≤ 64 := by have := HU.out; omega
  generalize Runs.unrun a = U at *
  generalize hu : U.length = u at *
  have HUE := hid hu.symm
  clear hu
  go_enter Try.func11, Try.ntmps11
  go_wp2_with fail
  refine (H1.out _ (ext_refl _)).mono ?_
  rintro e w1 ⟨B1, c1, rfl, r1, x1⟩
  have R1 := hid r1
  have X1 := hid x1
  clear r1 x1
  go_wp2_with fail
  refine (HAT.out _ X1.out).mono ?_
  rintro e w2 ⟨rfl, x2⟩
  replace R1 := hid (R1.out.keep x2)
  have X2 := hid (X1.out.then x2)
  clear x2
  go_wp2_with fail
  refine (HJ.out _ X2.out).mono ?_
  rintro e w3 ⟨B3, c3, rfl, r3, x3⟩
  have R3 := hid r3
  replace R1 := hid (R1.out.keep x3)
  have X3 := hid (X2.out.then x3)
  clear r3 x3
  go_wp2_with fail
  refine (H4.out _ X3.out).mono ?_
  rintro e w4 ⟨rfl, x4⟩
  replace R1 := hid (R1.out.keep x4)
  replace R3 := hid (R3.out.keep x4)
  have X4 := hid (X3.out.then x4)
  clear x4
  go_wp2_with fail
  refine (runsBegun_any _).mono ?_
  rintro e w5 ⟨rfl, x5⟩
  replace R1 := hid (R1.out.keep x5)
  replace R3 := hid (R3.out.keep x5)
  have X5 := hid (X4.out.then x5)
  clear x5
  go_wp2_with fail
  refine (H6.out _ X5.out).mono ?_
  rintro e w6 ⟨B6, c6, rfl, r6, x6⟩
  have R6 := hid r6
  replace R1 := hid (R1.out.keep x6)
  replace R3 := hid (R3.out.keep x6)
  have X6 := hid (X5.out.then x6)
  clear r6 x6
  obtain ⟨b6, o6, rfl, l6, c6'⟩ := R6.out.nums T (by rw [← HUE.out]; exact HTU.out)
  have d6 := c6' T (by rw [← HUE.out]; exact HTU.out)
  have hTI : (T : Int) < (u : Int) := by have := HTU.out; omega
  have hT0 : (0 : Int) ≤ (T : Int) := by omega
  have ev : U[T]'(by rw [← HUE.out]; exact HTU.out) = vv := by
    have := HVV.out
    rw [List.getElem?_eq_getElem (by rw [← HUE.out]; exact HTU.out)] at this
    exact Option.some.inj this
  rw [ev] at d6
  have v1 : ((vv : Int) != (vv : Int)) = false := by simp
  have v2 : ((vv : Int) == (vv : Int)) = true := by simp
  clear c6' ev
  go_wp2_with fail
  refine (H7.out _ X6.out).mono ?_
  rintro e w7 ⟨rfl, x7⟩
  replace R1 := hid (R1.out.keep x7)
  replace R3 := hid (R3.out.keep x7)
  replace R6 := hid (R6.out.keep x7)
  have X7 := hid (X6.out.then x7)
  clear x7
  go_wp2_with fail
  refine (sameNums_of U U _ _ _ _ _ _ _ HUE.out.symm HUE.out.symm R1.out R6.out (by have := HU.out; omega) true (by simp [sameNums])).mono ?_
  rintro e wN ⟨rfl, xN⟩
  have X8 := hid (X7.out.then xN)
  clear xN
  go_wp2
  go_returns
  exact ⟨rfl, X8.out⟩
set_option maxHeartbeats 4000000 in
theorem runsReads_in_many (a b : List Runs.Run) (T : Nat) (A B : Option Addr) (n m ca cb : Nat) (W : World) (hn : a.length = n) (hm : b.length = m) (ha : Rd W A (rws a)) (hb : Rd W B (rws b)) (hAn : A = none → n = 0) (hBn : B = none → m = 0) (hmc : m ≤ cb)
    (hnl : n ≤ 140737488355328) (hml : m ≤ 140737488355328) (ht0 : -9223372036854775808 ≤ (T : Int)) (ht1 : (T : Int) ≤ 9223372036854775807)
    (h1 : Runs.chk none 0 a = 0) (ht : T < (Runs.unrun a).length) (h2 : Runs.chk none 0 b = 0) (h3 : ¬ (Runs.unrun a ++ Runs.unrun b).length ≤ 64) :
    Calls Try.prog 11 #[.slice A n ca, .slice B m cb, .int .i64 (T : Int)] W fun e w' => e = .returned (.bool true) ∧ Ext W w' := by
  have hKa := chk_lt a none 0
  have hKb := chk_lt b none 0
  obtain ⟨z1, z2, z3⟩ := Runs.chk_zero a none 0 h1 (by omega)
  have hU64 : (Runs.unrun a).length ≤ 64 := by omega
  have H1 := hid (fun w' (hx : Ext W w') => expand_of a (Runs.unrun a) 0 n A ca w' hn (ha.keep hx) hnl (Runs.ex_ok a h1) h1)
  have H4 := hid (fun w' (hx : Ext W w') => runsCheck_of a 0 n A ca w' hn (ha.keep hx) hnl h1)
  have H6 := hid (fun w' (hx : Ext W w') => expanded_of a (Runs.unrun a) n A ca w' hn (ha.keep hx) h1 rfl)
  have hnI : (n : Int) ≤ 64 := by omega
  have HU := hid hU64
  obtain ⟨vv, hvv⟩ : ∃ vv, (Runs.unrun a)[T]? = some vv := ⟨_, List.getElem?_eq_getElem ht⟩
  have HAT := hid (fun w' (hx : Ext W w') => at_of a (T : Int) _ _ n A ca w' hn (ha.keep hx) hnl ht0 ht1 (Runs.att_in a T vv h1 hvv))
  have HTU := hid ht
  have HVV := hid hvv
  clear ht hvv
  have hJ := Runs.jo_ok a b h1 h2
  rw [if_neg h3] at hJ
  have HJ := hid (fun w' (hx : Ext W w') => joined_of a b [] 2 A B n m ca cb w' hn hm (ha.keep hx) (hb.keep hx) hAn hBn hmc hnl hml hJ)
  have H7 := hid (fun w' (hx : Ext W w') => runsCheck_of b 0 m B cb w' hm (hb.keep hx) hml h2)
  have H8 := hid (fun w' (hx : Ext W w') => expanded_of b (Runs.unrun b) m B cb w' hm (hb.keep hx) h2 rfl)
  have hVb := (Runs.chk_zero b none 0 h2 (by omega)).2.1
  rw [List.length_append] at h3
  have h3I : 64 < ((Runs.unrun a).length : Int) + ((Runs.unrun b).length : Int) := by omega
  have HV := hid (show (Runs.unrun b).length ≤ 64 by omega)
  have hVI : ((Runs.unrun b).length : Int) ≤ 64 := by omega
  clear hJ h2 hKb h3 hVb
  clear h1 z1 z2 z3 hU64 hn hm ha hb hAn hBn hmc hnl hml ht0 ht1 hKa
  have huI : ((Runs.unrun a).length : Int) ≤ 64 := by have := HU.out; omega
  generalize Runs.unrun a = U at *
  generalize hu : U.length = u at *
  have HUE := hid hu.symm
  clear hu
  go_enter Try.func11, Try.ntmps11
  go_wp2_with fail
  refine (H1.out _ (ext_refl _)).mono ?_
  rintro e w1 ⟨B1, c1, rfl, r1, x1⟩
  have R1 := hid r1
  have X1 := hid x1
  clear r1 x1
  go_wp2_with fail
  refine (HAT.out _ X1.out).mono ?_
  rintro e w2 ⟨rfl, x2⟩
  replace R1 := hid (R1.out.keep x2)
  have X2 := hid (X1.out.then x2)
  clear x2
  go_wp2_with fail
  refine (HJ.out _ X2.out).mono ?_
  rintro e w3 ⟨B3, c3, rfl, r3, x3⟩
  have R3 := hid r3
  replace R1 := hid (R1.out.keep x3)
  have X3 := hid (X2.out.then x3)
  clear r3 x3
  go_wp2_with fail
  refine (H4.out _ X3.out).mono ?_
  rintro e w4 ⟨rfl, x4⟩
  replace R1 := hid (R1.out.keep x4)
  replace R3 := hid (R3.out.keep x4)
  have X4 := hid (X3.out.then x4)
  clear x4
  go_wp2_with fail
  refine (runsBegun_any _).mono ?_
  rintro e w5 ⟨rfl, x5⟩
  replace R1 := hid (R1.out.keep x5)
  replace R3 := hid (R3.out.keep x5)
  have X5 := hid (X4.out.then x5)
  clear x5
  go_wp2_with fail
  refine (H6.out _ X5.out).mono ?_
  rintro e w6 ⟨B6, c6, rfl, r6, x6⟩
  have R6 := hid r6
  replace R1 := hid (R1.out.keep x6)
  replace R3 := hid (R3.out.keep x6)
  have X6 := hid (X5.out.then x6)
  clear r6 x6
  obtain ⟨b6, o6, rfl, l6, c6'⟩ := R6.out.nums T (by rw [← HUE.out]; exact HTU.out)
  have d6 := c6' T (by rw [← HUE.out]; exact HTU.out)
  have hTI : (T : Int) < (u : Int) := by have := HTU.out; omega
  have hT0 : (0 : Int) ≤ (T : Int) := by omega
  have ev : U[T]'(by rw [← HUE.out]; exact HTU.out) = vv := by
    have := HVV.out
    rw [List.getElem?_eq_getElem (by rw [← HUE.out]; exact HTU.out)] at this
    exact Option.some.inj this
  rw [ev] at d6
  have v1 : ((vv : Int) != (vv : Int)) = false := by simp
  have v2 : ((vv : Int) == (vv : Int)) = true := by simp
  clear c6' ev
  go_wp2_with fail
  refine (H7.out _ X6.out).mono ?_
  rintro e w7 ⟨rfl, x7⟩
  replace R1 := hid (R1.out.keep x7)
  replace R3 := hid (R3.out.keep x7)
  replace R6 := hid (R6.out.keep x7)
  have X7 := hid (X6.out.then x7)
  clear x7
  have HNIL6 := hid (show _ → u = 0 from fun h => by rw [HUE.out]; exact rd_none R6.out h)
  go_wp2_with (first
    | (at_builtin; go_loud (refine wpList_app rfl (.tmp 110) (.tmp 111) rowU64 rfl _ 0 [] rfl (own_new (base := w7.heap.size) (n := 0) rfl rfl (Nat.le_refl _) (by decide)) _ u (u64s U) rfl (Src.rd Try.underlying36 _ u c6 _ (by rw [u64s_len, HUE.out, Nat.mul_one]) (R6.out.keep (Ext.new (ext_refl w7) _)) (u64s_one _) HNIL6.out) (by have := HU.out; simp only [maxLen]; omega) (by have := HU.out; omega) (by simp) ?_; intro v8 w8 hown8 hgrow8 hat8 hbel8; have HO8 := hid hown8; have E8 : Hid (Ext w7 w8) := hid ((Ext.new (ext_refl w7) _).trans hbel8); clear hown8 hgrow8 hat8 hbel8))
    | (go_at_call 33; refine (H8.out _ (X7.out.then E8.out)).mono ?_; rintro e w9 ⟨B9, c9, rfl, r9, x9⟩; have R9 := hid r9; replace HO8 := hid (own_ext HO8.out x9); have E9 : Hid (Ext w7 w9) := hid (E8.out.then x9); have HNIL9 := hid (rd_none R9.out); clear r9 x9)
    | (at_builtin; go_loud (refine wpList_app rfl (.tmp 112) (.tmp 114) rowU64 rfl _ (0 + u) ([] ++ u64s U) rfl HO8.out _ (Runs.unrun b).length (u64s (Runs.unrun b)) rfl (Src.rd Try.underlying36 _ _ c9 _ (by rw [u64s_len, Nat.mul_one]) R9.out (u64s_one _) HNIL9.out) (by have := HU.out; have := HV.out; simp only [maxLen]; omega) (by have := HU.out; have := HV.out; omega) E9.out.size ?_; intro v10 w10 hown10 hgrow10 hat10 hbel10; rw [Nat.zero_add, List.nil_append, ← u64s_app] at hown10; obtain ⟨A10, c10, rfl, r10, _, _, _⟩ := Rd.owned hown10; have R10 := hid r10; have E10 : Hid (Ext w7 w10) := hid (E9.out.trans hbel10); replace R1 := hid (R1.out.keep E10.out); replace R3 := hid (R3.out.keep E10.out); replace R6 := hid (R6.out.keep E10.out); have X10 := hid (X7.out.then E10.out); clear hown10 hgrow10 hat10 hbel10 r10)))
  refine (sameNums_of U U _ _ _ _ _ _ _ HUE.out.symm HUE.out.symm R1.out R6.out (by have := HU.out; omega) true (by simp [sameNums])).mono ?_
  rintro e wN ⟨rfl, xN⟩
  have X11 := hid (X10.out.then xN)
  clear xN
  go_wp2
  go_returns
  exact ⟨rfl, X11.out⟩
set_option maxHeartbeats 4000000 in
theorem runsReads_in_ok (a b : List Runs.Run) (T : Nat) (A B : Option Addr) (n m ca cb : Nat) (W : World) (hn : a.length = n) (hm : b.length = m) (ha : Rd W A (rws a)) (hb : Rd W B (rws b)) (hAn : A = none → n = 0) (hBn : B = none → m = 0) (hmc : m ≤ cb)
    (hnl : n ≤ 140737488355328) (hml : m ≤ 140737488355328) (ht0 : -9223372036854775808 ≤ (T : Int)) (ht1 : (T : Int) ≤ 9223372036854775807)
    (h1 : Runs.chk none 0 a = 0) (ht : T < (Runs.unrun a).length) (h2 : Runs.chk none 0 b = 0) (h3 : (Runs.unrun a ++ Runs.unrun b).length ≤ 64) :
    Calls Try.prog 11 #[.slice A n ca, .slice B m cb, .int .i64 (T : Int)] W fun e w' => e = .returned (.bool true) ∧ Ext W w' := by
  have hKa := chk_lt a none 0
  have hKb := chk_lt b none 0
  obtain ⟨z1, z2, z3⟩ := Runs.chk_zero a none 0 h1 (by omega)
  have hU64 : (Runs.unrun a).length ≤ 64 := by omega
  have H1 := hid (fun w' (hx : Ext W w') => expand_of a (Runs.unrun a) 0 n A ca w' hn (ha.keep hx) hnl (Runs.ex_ok a h1) h1)
  have H4 := hid (fun w' (hx : Ext W w') => runsCheck_of a 0 n A ca w' hn (ha.keep hx) hnl h1)
  have H6 := hid (fun w' (hx : Ext W w') => expanded_of a (Runs.unrun a) n A ca w' hn (ha.keep hx) h1 rfl)
  have hnI : (n : Int) ≤ 64 := by omega
  have HU := hid hU64
  obtain ⟨vv, hvv⟩ : ∃ vv, (Runs.unrun a)[T]? = some vv := ⟨_, List.getElem?_eq_getElem ht⟩
  have HAT := hid (fun w' (hx : Ext W w') => at_of a (T : Int) _ _ n A ca w' hn (ha.keep hx) hnl ht0 ht1 (Runs.att_in a T vv h1 hvv))
  have HTU := hid ht
  have HVV := hid hvv
  clear ht hvv
  have hJ := Runs.jo_ok a b h1 h2
  rw [if_pos h3] at hJ
  have HJ := hid (fun w' (hx : Ext W w') => joined_of a b _ 0 A B n m ca cb w' hn hm (ha.keep hx) (hb.keep hx) hAn hBn hmc hnl hml hJ)
  have H7 := hid (fun w' (hx : Ext W w') => runsCheck_of b 0 m B cb w' hm (hb.keep hx) hml h2)
  have H8 := hid (fun w' (hx : Ext W w') => expanded_of b (Runs.unrun b) m B cb w' hm (hb.keep hx) h2 rfl)
  have hVb := (Runs.chk_zero b none 0 h2 (by omega)).2.1
  have H9 := hid (fun (w' : World) (C : Option Addr) (c : Nat) (hr : Rd w' C (u64s (Runs.unrun a ++ Runs.unrun b))) => runsOf_any (Runs.unrun a ++ Runs.unrun b) C _ c w' (List.length_append) hr (by rw [← List.length_append]; omega))
  have HRL := hid (show (Runs.runs (Runs.unrun a ++ Runs.unrun b)).length ≤ 64 from Nat.le_trans (Runs.runs_len _) h3)
  obtain ⟨Z, hZ⟩ : ∃ Z, Z = Runs.runs (Runs.unrun a ++ Runs.unrun b) := ⟨_, rfl⟩
  rw [← hZ] at HJ H9 HRL
  rw [List.length_append] at h3
  have h3I : ((Runs.unrun a).length : Int) + ((Runs.unrun b).length : Int) ≤ 64 := by omega
  have HV := hid (show (Runs.unrun b).length ≤ 64 by omega)
  have hVI : ((Runs.unrun b).length : Int) ≤ 64 := by omega
  clear hJ h2 hKb h3 hVb hZ
  clear h1 z1 z2 z3 hU64 hn hm ha hb hAn hBn hmc hnl hml ht0 ht1 hKa
  have huI : ((Runs.unrun a).length : Int) ≤ 64 := by have := HU.out; omega
  generalize Runs.unrun a = U at *
  generalize hu : U.length = u at *
  have HUE := hid hu.symm
  clear hu
  go_enter Try.func11, Try.ntmps11
  go_wp2_with fail
  refine (H1.out _ (ext_refl _)).mono ?_
  rintro e w1 ⟨B1, c1, rfl, r1, x1⟩
  have R1 := hid r1
  have X1 := hid x1
  clear r1 x1
  go_wp2_with fail
  refine (HAT.out _ X1.out).mono ?_
  rintro e w2 ⟨rfl, x2⟩
  replace R1 := hid (R1.out.keep x2)
  have X2 := hid (X1.out.then x2)
  clear x2
  go_wp2_with fail
  refine (HJ.out _ X2.out).mono ?_
  rintro e w3 ⟨B3, c3, rfl, r3, x3⟩
  have R3 := hid r3
  replace R1 := hid (R1.out.keep x3)
  have X3 := hid (X2.out.then x3)
  clear r3 x3
  go_wp2_with fail
  refine (H4.out _ X3.out).mono ?_
  rintro e w4 ⟨rfl, x4⟩
  replace R1 := hid (R1.out.keep x4)
  replace R3 := hid (R3.out.keep x4)
  have X4 := hid (X3.out.then x4)
  clear x4
  go_wp2_with fail
  refine (runsBegun_any _).mono ?_
  rintro e w5 ⟨rfl, x5⟩
  replace R1 := hid (R1.out.keep x5)
  replace R3 := hid (R3.out.keep x5)
  have X5 := hid (X4.out.then x5)
  clear x5
  go_wp2_with fail
  refine (H6.out _ X5.out).mono ?_
  rintro e w6 ⟨B6, c6, rfl, r6, x6⟩
  have R6 := hid r6
  replace R1 := hid (R1.out.keep x6)
  replace R3 := hid (R3.out.keep x6)
  have X6 := hid (X5.out.then x6)
  clear r6 x6
  obtain ⟨b6, o6, rfl, l6, c6'⟩ := R6.out.nums T (by rw [← HUE.out]; exact HTU.out)
  have d6 := c6' T (by rw [← HUE.out]; exact HTU.out)
  have hTI : (T : Int) < (u : Int) := by have := HTU.out; omega
  have hT0 : (0 : Int) ≤ (T : Int) := by omega
  have ev : U[T]'(by rw [← HUE.out]; exact HTU.out) = vv := by
    have := HVV.out
    rw [List.getElem?_eq_getElem (by rw [← HUE.out]; exact HTU.out)] at this
    exact Option.some.inj this
  rw [ev] at d6
  have v1 : ((vv : Int) != (vv : Int)) = false := by simp
  have v2 : ((vv : Int) == (vv : Int)) = true := by simp
  clear c6' ev
  go_wp2_with fail
  refine (H7.out _ X6.out).mono ?_
  rintro e w7 ⟨rfl, x7⟩
  replace R1 := hid (R1.out.keep x7)
  replace R3 := hid (R3.out.keep x7)
  replace R6 := hid (R6.out.keep x7)
  have X7 := hid (X6.out.then x7)
  clear x7
  have HNIL6 := hid (show _ → u = 0 from fun h => by rw [HUE.out]; exact rd_none R6.out h)
  go_wp2_with (first
    | (at_builtin; go_loud (refine wpList_app rfl (.tmp 110) (.tmp 111) rowU64 rfl _ 0 [] rfl (own_new (base := w7.heap.size) (n := 0) rfl rfl (Nat.le_refl _) (by decide)) _ u (u64s U) rfl (Src.rd Try.underlying36 _ u c6 _ (by rw [u64s_len, HUE.out, Nat.mul_one]) (R6.out.keep (Ext.new (ext_refl w7) _)) (u64s_one _) HNIL6.out) (by have := HU.out; simp only [maxLen]; omega) (by have := HU.out; omega) (by simp) ?_; intro v8 w8 hown8 hgrow8 hat8 hbel8; have HO8 := hid hown8; have E8 : Hid (Ext w7 w8) := hid ((Ext.new (ext_refl w7) _).trans hbel8); clear hown8 hgrow8 hat8 hbel8))
    | (go_at_call 33; refine (H8.out _ (X7.out.then E8.out)).mono ?_; rintro e w9 ⟨B9, c9, rfl, r9, x9⟩; have R9 := hid r9; replace HO8 := hid (own_ext HO8.out x9); have E9 : Hid (Ext w7 w9) := hid (E8.out.then x9); have HNIL9 := hid (rd_none R9.out); clear r9 x9)
    | (at_builtin; go_loud (refine wpList_app rfl (.tmp 112) (.tmp 114) rowU64 rfl _ (0 + u) ([] ++ u64s U) rfl HO8.out _ (Runs.unrun b).length (u64s (Runs.unrun b)) rfl (Src.rd Try.underlying36 _ _ c9 _ (by rw [u64s_len, Nat.mul_one]) R9.out (u64s_one _) HNIL9.out) (by have := HU.out; have := HV.out; simp only [maxLen]; omega) (by have := HU.out; have := HV.out; omega) E9.out.size ?_; intro v10 w10 hown10 hgrow10 hat10 hbel10; rw [Nat.zero_add, List.nil_append, ← u64s_app] at hown10; obtain ⟨A10, c10, rfl, r10, _, _, _⟩ := Rd.owned hown10; have R10 := hid r10; have E10 : Hid (Ext w7 w10) := hid (E9.out.trans hbel10); replace R1 := hid (R1.out.keep E10.out); replace R3 := hid (R3.out.keep E10.out); replace R6 := hid (R6.out.keep E10.out); have X10 := hid (X7.out.then E10.out); clear hown10 hgrow10 hat10 hbel10 r10)))
  refine (sameNums_of U U _ _ _ _ _ _ _ HUE.out.symm HUE.out.symm R1.out R6.out (by have := HU.out; omega) true (by simp [sameNums])).mono ?_
  rintro e wN ⟨rfl, xN⟩
  replace R3 := hid (R3.out.keep xN)
  replace R10 := hid (R10.out.keep xN)
  have X11 := hid (X10.out.then xN)
  clear xN
  go_wp2_with fail
  refine (H9.out _ _ _ R10.out).mono ?_
  rintro e w12 ⟨B12, c12, rfl, r12, x12⟩
  have R12 := hid r12
  replace R3 := hid (R3.out.keep x12)
  have X12 := hid (X11.out.then x12)
  clear r12 x12
  go_wp2_with fail
  refine (sameRuns_of Z Z _ _ _ _ _ _ _ rfl rfl R3.out R12.out (by have := HRL.out; omega) true (by simp [sameRuns])).mono ?_
  rintro e w13 ⟨rfl, x13⟩
  have X13 := hid (X12.out.then x13)
  clear x13
  go_wp2
  go_returns
  exact ⟨rfl, X13.out⟩
set_option maxHeartbeats 4000000 in
theorem runsReads_none (a b : List Runs.Run) (t : Int) (A B : Option Addr) (n m ca cb : Nat) (W : World) (hn : a.length = n) (hm : b.length = m) (ha : Rd W A (rws a)) (hb : Rd W B (rws b)) (hAn : A = none → n = 0) (hBn : B = none → m = 0) (hmc : m ≤ cb)
    (hnl : n ≤ 140737488355328) (hml : m ≤ 140737488355328) (ht0 : -9223372036854775808 ≤ t) (ht1 : t ≤ 9223372036854775807)
    (h1 : Runs.chk none 0 a ≠ 0) :
    Calls Try.prog 11 #[.slice A n ca, .slice B m cb, .int .i64 t] W fun e w' => e = .returned (.bool true) ∧ Ext W w' := by
  have hKa := chk_lt a none 0
  have H1 := hid (fun w' (hx : Ext W w') => expand_of a [] _ n A ca w' hn (ha.keep hx) hnl (Runs.ex_no a h1) rfl)
  have H4 := hid (fun w' (hx : Ext W w') => runsCheck_of a _ n A ca w' hn (ha.keep hx) hnl rfl)
  have HAT := hid (fun w' (hx : Ext W w') => at_of a t _ _ n A ca w' hn (ha.keep hx) hnl ht0 ht1 (Runs.att_bad a t h1))
  have HJ := hid (fun w' (hx : Ext W w') => joined_of a b [] _ A B n m ca cb w' hn hm (ha.keep hx) (hb.keep hx) hAn hBn hmc hnl hml (Runs.jo_bad a b h1))
  obtain ⟨K, hK⟩ : ∃ K, K = Runs.chk none 0 a := ⟨_, rfl⟩
  rw [← hK] at H1 H4 HAT HJ hKa h1
  have hKI : 1 ≤ (K : Int) ∧ (K : Int) ≤ 6 := by omega
  have k1 : ((K : Int) == 0) = false := by rw [beq_eq_false_iff_ne]; omega
  have k2 : ((K : Int) != 0) = true := by simp; omega
  have k3 : ((K : Int) == (K : Int)) = true := by simp
  clear hK h1 hKa hn hm ha hb hAn hBn hmc hnl hml ht0 ht1
  go_enter Try.func11, Try.ntmps11
  go_wp2_with fail
  refine (H1.out _ (ext_refl _)).mono ?_
  rintro e w1 ⟨B1, c1, rfl, r1, x1⟩
  have R1 := hid r1
  have X1 := hid x1
  clear r1 x1
  go_wp2_with fail
  refine (HAT.out _ X1.out).mono ?_
  rintro e w2 ⟨rfl, x2⟩
  replace R1 := hid (R1.out.keep x2)
  have X2 := hid (X1.out.then x2)
  clear x2
  go_wp2_with fail
  refine (HJ.out _ X2.out).mono ?_
  rintro e w3 ⟨B3, c3, rfl, r3, x3⟩
  have R3 := hid r3
  replace R1 := hid (R1.out.keep x3)
  have X3 := hid (X2.out.then x3)
  clear r3 x3
  go_wp2_with fail
  refine (H4.out _ X3.out).mono ?_
  rintro e w4 ⟨rfl, x4⟩
  replace R1 := hid (R1.out.keep x4)
  replace R3 := hid (R3.out.keep x4)
  have X4 := hid (X3.out.then x4)
  clear x4
  go_wp2_with fail
  refine (runsBegun_any _).mono ?_
  rintro e w5 ⟨rfl, x5⟩
  replace R1 := hid (R1.out.keep x5)
  replace R3 := hid (R3.out.keep x5)
  have X5 := hid (X4.out.then x5)
  clear x5
  go_wp2
  go_returns
  exact ⟨rfl, X5.out⟩
theorem runsReads_walk (a b : List Runs.Run) (t : Int) (A B : Option Addr) (n m ca cb : Nat) (W : World) (hn : a.length = n) (hm : b.length = m) (ha : Rd W A (rws a)) (hb : Rd W B (rws b)) (hAn : A = none → n = 0) (hBn : B = none → m = 0) (hmc : m ≤ cb)
    (hnl : n ≤ 140737488355328) (hml : m ≤ 140737488355328) (ht0 : -9223372036854775808 ≤ t) (ht1 : t ≤ 9223372036854775807) :
    Calls Try.prog 11 #[.slice A n ca, .slice B m cb, .int .i64 t] W fun e w' => e = .returned (.bool true) ∧ Ext W w' := by
  by_cases h1 : Runs.chk none 0 a = 0
  · by_cases ht : t < 0
    · by_cases h2 : Runs.chk none 0 b = 0
      · by_cases h3 : (Runs.unrun a ++ Runs.unrun b).length ≤ 64
        · exact runsReads_low_ok a b t A B n m ca cb W hn hm ha hb hAn hBn hmc hnl hml ht0 ht1 h1 ht h2 h3
        · exact runsReads_low_many a b t A B n m ca cb W hn hm ha hb hAn hBn hmc hnl hml ht0 ht1 h1 ht h2 h3
      · exact runsReads_low_bad a b t A B n m ca cb W hn hm ha hb hAn hBn hmc hnl hml ht0 ht1 h1 ht h2
    · by_cases ht2 : ((Runs.unrun a).length : Int) ≤ t
      · by_cases h2 : Runs.chk none 0 b = 0
        · by_cases h3 : (Runs.unrun a ++ Runs.unrun b).length ≤ 64
          · exact runsReads_high_ok a b t A B n m ca cb W hn hm ha hb hAn hBn hmc hnl hml ht0 ht1 h1 ht2 h2 h3
          · exact runsReads_high_many a b t A B n m ca cb W hn hm ha hb hAn hBn hmc hnl hml ht0 ht1 h1 ht2 h2 h3
        · exact runsReads_high_bad a b t A B n m ca cb W hn hm ha hb hAn hBn hmc hnl hml ht0 ht1 h1 ht2 h2
      · obtain ⟨T, rfl⟩ : ∃ T : Nat, t = (T : Int) := ⟨t.toNat, by omega⟩
        have htu : T < (Runs.unrun a).length := by omega
        by_cases h2 : Runs.chk none 0 b = 0
        · by_cases h3 : (Runs.unrun a ++ Runs.unrun b).length ≤ 64
          · exact runsReads_in_ok a b T A B n m ca cb W hn hm ha hb hAn hBn hmc hnl hml ht0 ht1 h1 htu h2 h3
          · exact runsReads_in_many a b T A B n m ca cb W hn hm ha hb hAn hBn hmc hnl hml ht0 ht1 h1 htu h2 h3
        · exact runsReads_in_bad a b T A B n m ca cb W hn hm ha hb hAn hBn hmc hnl hml ht0 ht1 h1 htu h2
  · exact runsReads_none a b t A B n m ca cb W hn hm ha hb hAn hBn hmc hnl hml ht0 ht1 h1
end Go.Proofs.Ytgobnpogmghgkaa
