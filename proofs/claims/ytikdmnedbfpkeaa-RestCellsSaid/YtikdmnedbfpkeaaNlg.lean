/- Nulls: the closed test. -/
import Derived.Test.YtikdmnedbfpkeaaNlf
import Derived.Test.YtikdmnedbfpkeaaStm
import Derived.Test.YtikdmnedbfpkeaaGho
namespace Hy.Cel
abbrev l0 : List Cel := [(1, 5, ByteArray.empty), (0, 0, ByteArray.empty), (1, 7, ByteArray.empty)]
abbrev d0 : List Cel := [(1, 5, ByteArray.empty), (1, 7, ByteArray.empty)]
abbrev m0 : List Bool := [true, false, true]
theorem b1 : cchk 1 l0 = 0 := by decide +kernel
theorem b2 : thereL l0 = m0 := by decide +kernel
theorem b3 : dense l0 = d0 := by decide +kernel
theorem b4 : jchk 1 m0 d0 = 0 := by decide +kernel
theorem b5 : jout 1 m0 d0 = l0 := by decide +kernel
theorem b6 : atC 1 m0 d0 2 = (1, 7, ByteArray.empty) := by decide +kernel
theorem b7 : atE 1 m0 d0 2 = 0 := by decide +kernel
theorem b8 : jchk 1 m0 (d0.take 1) = 1 := by decide +kernel
theorem b9 : cchk 2 l0 = 7 := by decide +kernel
theorem b10 : less O (1, 0, ByteArray.empty) = true := by decide +kernel
end Hy.Cel
namespace Go.Proofs.Ytikdmnedbfpkeaa
open Go.RowKit Hy
theorem marks_any (A : Option Addr) (n c : Nat) (w : World) : Calls Try.prog 42 #[.slice A n c] w fun e w' => e = .returned (.slice A n c) ∧ w = w' := by
  go_enter Try.func42, Try.ntmps42
  go_wp2
  go_returns
  exact ⟨rfl, rfl⟩
theorem split_a (A : Option Addr) (cap : Nat) (w : World) (hr : Rd w A (cls Cel.l0)) :
    Calls Try.prog 22 #[.int .i64 1, .slice A 3 cap] w fun e w' => ∃ C c D d, e = .returned (.tuple #[.slice C 3 c, .slice D 2 d, .int .i64 0]) ∧ Rd w' C (bls Cel.m0) ∧ Rd w' D (cls Cel.d0) ∧ 3 ≤ c ∧ 2 ≤ d ∧ Ext w w' := by
  refine (split_any 1 Cel.l0 A 3 cap w rfl hr (by omega)).mono ?_
  rintro e w' ⟨C, n, c, D, m, d, rfl, hx, h1, h2, h⟩
  rcases h with ⟨_, rfl, rfl, h3, h4⟩ | ⟨h, _⟩
  · rw [Cel.b1, Cel.b3] at *
    rw [Cel.b2] at h3
    exact ⟨C, c, D, d, rfl, h3, h4, h1, h2, hx⟩
  · exact absurd Cel.b1 h
theorem join_a (A B : Option Addr) (ca cb : Nat) (w : World) (h1 : Rd w A (bls Cel.m0)) (h2 : Rd w B (cls Cel.d0)) (h3 : 2 ≤ cb) :
    Calls Try.prog 29 #[.int .i64 1, .slice A 3 ca, .slice B 2 cb] w fun e w' => ∃ C c, e = .returned (.tuple #[.slice C 3 c, .int .i64 0]) ∧ Rd w' C (cls Cel.l0) ∧ Ext w w' := by
  have h := join_any 1 Cel.m0 Cel.d0 A B 2 3 ca cb w rfl h1 rfl h2 h3 (by omega) (by omega)
  rw [Cel.b4, Cel.b5] at h
  exact h
theorem join_b (A B : Option Addr) (ca cb : Nat) (w : World) (h1 : Rd w A (bls Cel.m0)) (h2 : Rd w B (cls Cel.d0)) (h3 : 2 ≤ cb) :
    Calls Try.prog 29 #[.int .i64 1, .slice A 3 ca, .slice B 1 cb] w fun e w' => ∃ C c n, e = .returned (.tuple #[.slice C n c, .int .i64 1]) ∧ Ext w w' := by
  have h := join_any 1 Cel.m0 (Cel.d0.take 1) A B 1 3 ca cb w rfl h1 rfl (Rd.take (f := cel3) h2 1) (by omega) (by omega) (by omega)
  rw [Cel.b8] at h
  refine h.mono ?_
  rintro e w' ⟨C, c, rfl, _, hx⟩
  exact ⟨C, c, _, rfl, hx⟩
theorem at_a (A B : Option Addr) (ca cb : Nat) (w : World) (h1 : Rd w A (bls Cel.m0)) (h2 : Rd w B (cls Cel.d0)) (h3 : 3 ≤ ca) :
    Calls Try.prog 30 #[.int .i64 1, .slice A 3 ca, .slice B 2 cb, .int .i64 2] w fun e w' => e = .returned (.tuple #[.agg #[.int .i64 1, .int .u64 7, .string .empty], .int .i64 0]) ∧ Ext w w' := by
  have h := at_any 1 Cel.m0 Cel.d0 2 A B 2 3 ca cb w rfl h1 rfl h2 h3 (by omega) (by omega)
  rw [Cel.b6, Cel.b7] at h
  exact h
theorem check_c (A : Option Addr) (cap : Nat) (w : World) (hr : Rd w A (cls Cel.l0)) :
    Calls Try.prog 24 #[.int .i64 2, .slice A 3 cap] w fun e w' => e = .returned (.int .i64 7) ∧ Ext w w' := by
  have h := check_any 2 Cel.l0 A 3 cap w rfl hr (by omega)
  rw [Cel.b9] at h
  exact h
theorem less_a (w : World) : Calls Try.prog 21 #[.agg #[.int .i64 0, .int .u64 0, .string ⟨#[]⟩], .agg #[.int .i64 1, .int .u64 0, .string .empty]] w fun e w' => e = .returned (.bool true) ∧ Ext w w' := by
  have h := less_any Cel.O (1, 0, ByteArray.empty) w
  rw [Cel.b10] at h
  exact h
set_option maxHeartbeats 8000000 in
set_option maxRecDepth 100000 in
theorem nullsBegun_any (w : World) : Calls Try.prog 23 #[] w fun e w' => e = .returned (.bool true) ∧ Ext w w' := by
  have X := hid (ext_refl w)
  go_enter Try.func23, Try.ntmps23
  go_wp2_with fail
  refine Calls.mono (cNum_any _ _) ?_
  rintro e w1 ⟨rfl, hx⟩
  replace X := hid (X.out.then hx)
  clear hx
  go_wp2_with fail
  refine Calls.mono (cNum_any _ _) ?_
  rintro e w2 ⟨rfl, hx⟩
  replace X := hid (X.out.then hx)
  clear hx
  go_wp2_with fail
  refine Calls.mono (cells_any _ _ _ _) ?_
  rintro e _ ⟨rfl, rfl⟩
  have R0 := hid (rd_lit (w := w2) (g := w2.heap.size) (C := #[.int .i64 1, .int .u64 5, .string .empty, .int .i64 0, .int .u64 0, .string ⟨#[]⟩, .int .i64 1, .int .u64 7, .string .empty]) (e := 25) (fz := (0, 0)) (cs := cls Cel.l0) rfl rfl)
  replace X := hid (Ext.new X.out (.cells #[.int .i64 1, .int .u64 5, .string .empty, .int .i64 0, .int .u64 0, .string ⟨#[]⟩, .int .i64 1, .int .u64 7, .string .empty] 25))
  go_wp2_with fail
  refine Calls.mono (split_a _ _ _ R0.out) ?_
  rintro e w3 ⟨C, c, D, d, rfl, h1, h2, h3, h4, hx⟩
  replace X := hid (X.out.then hx)
  replace R0 := hid (R0.out.keep hx)
  have RC := hid h1; have RD := hid h2
  have HC := hid h3; have HD := hid h4
  have hdI : (2 : Int) ≤ (d : Int) := by omega
  clear hx h1 h2 h3 h4
  go_wp2_with fail
  refine Calls.mono (join_a _ _ _ _ _ RC.out RD.out HD.out) ?_
  rintro e w4 ⟨J, j, rfl, h1, hx⟩
  replace X := hid (X.out.then hx)
  replace R0 := hid (R0.out.keep hx)
  replace RC := hid (RC.out.keep hx)
  replace RD := hid (RD.out.keep hx)
  have RJ := hid h1
  clear hx h1
  go_wp2_with fail
  refine Calls.mono (at_a _ _ _ _ _ RC.out RD.out HC.out) ?_
  rintro e w5 ⟨rfl, hx⟩
  have hx2 := Ext.new hx (.cells #[.int .i64 1, .int .u64 7, .string .empty] 25)
  replace X := hid (X.out.then hx2)
  replace R0 := hid (R0.out.keep hx2)
  replace RC := hid (RC.out.keep hx2)
  replace RD := hid (RD.out.keep hx2)
  replace RJ := hid (RJ.out.keep hx2)
  have BC := hid (Blk.new w5 25 #[.int .i64 1, .int .u64 7, .string .empty])
  clear hx hx2
  have hsl := fun wx : World => sl_to (P := Try.prog) (t := 22) (e := 25) (m := 3) Try.underlying22 (by kernel_rfl) D 2 d .i64 1 (by omega) wx
  go_wp2_with fail
  refine Calls.mono (join_b _ _ _ _ _ RC.out RD.out HD.out) ?_
  rintro e w6 ⟨J2, j2, n2, rfl, hx⟩
  replace X := hid (X.out.then hx)
  replace R0 := hid (R0.out.keep hx)
  replace RC := hid (RC.out.keep hx)
  replace RD := hid (RD.out.keep hx)
  replace RJ := hid (RJ.out.keep hx)
  replace BC := hid (BC.out.keep hx)
  clear hx hsl
  obtain ⟨p0, p1, p2⟩ := BC.out.c3
  have p0r := cell_regrown p0
  have p1r := cell_regrown p1
  have p2r := cell_regrown p2
  go_wp2_with fail
  refine wp_region_walk [(0, true), (1, true), (2, true), (3, true), (4, false), (5, false), (6, false), (7, true), (8, true), (9, true), (10, false), (11, false), (12, false), (13, false), (14, false), (15, true), (16, true), (17, true), (18, true), (19, true), (20, true), (21, true), (22, true), (23, false), (24, true), (25, true), (26, true), (27, false), (28, true), (29, true), (30, true), (31, true), (32, true), (33, true), (34, true), (35, true), (36, true), (37, true), (38, true), (39, true), (40, false), (41, true), (42, true), (43, true), (44, true), (45, false), (46, false), (47, true), (48, true)] (by kernel_rfl) (by kernel_rfl) (fun _ _ _ _ _ h => h) (by kernel_rfl) (by rfl) ?_
  simp only [List.filterMap_cons, List.filterMap_nil, List.getElem?_toArray, List.getElem?_cons_zero, List.getElem?_cons_succ, Option.map_some]
  repeat (refine wpM_val (by rfl) ?_; intro K hK; go_big_quiet_op; go_big_quiet_on)
  refine wpM_do (by rfl) ?_
  intro K hK
  go_simp
  have XR1 := (Ext.new (ext_refl w6) (.cells #[.bool true, .bool false, .bool true] 4)).draw
  have RL := (rd_lit (w := w6) (g := w6.heap.size) (C := #[.bool true, .bool false, .bool true]) (e := 4) (fz := (0, 0)) (cs := bls Cel.m0) rfl rfl).keep (ext_refl _).draw
  refine hK _ _ XR1 ?_
  clear K hK
  repeat (refine wpM_val (by rfl) ?_; intro K hK; go_big_quiet_op; go_big_quiet_on)
  refine wpM_do (by rfl) ?_
  intro K hK
  go_simp
  refine Calls.mono (marks_any _ _ _ _) ?_
  rintro e _ ⟨rfl, rfl⟩
  refine hK _ _ XR1 ?_
  clear K hK
  repeat (refine wpM_val (by rfl) ?_; intro K hK; go_big_quiet_op; go_big_quiet_on)
  refine wpM_do (by rfl) ?_
  intro K hK
  go_simp
  refine Calls.mono (sameMarks_any Cel.m0 Cel.m0 _ _ 3 3 _ _ _ rfl rfl (RC.out.keep XR1) RL (by omega)) ?_
  rintro e w7 ⟨rfl, hx⟩
  have XR2 := XR1.then hx
  refine hK _ _ XR2 ?_
  clear K hK hx RL
  simp only [decide_true]
  repeat (refine wpM_val (by rfl) ?_; intro K hK; go_big_quiet_op; go_big_quiet_on)
  refine wpM_do (by rfl) ?_
  intro K hK
  go_simp
  refine Calls.mono (cNum_any _ _) ?_
  rintro e w8 ⟨rfl, hx⟩
  have XR3 := XR2.then hx
  refine hK _ _ XR3 ?_
  clear K hK hx
  repeat (refine wpM_val (by rfl) ?_; intro K hK; go_big_quiet_op; go_big_quiet_on)
  refine wpM_do (by rfl) ?_
  intro K hK
  go_simp
  refine Calls.mono (cNum_any _ _) ?_
  rintro e w9 ⟨rfl, hx⟩
  have XR4 := XR3.then hx
  refine hK _ _ XR4 ?_
  clear K hK hx
  repeat (refine wpM_val (by rfl) ?_; intro K hK; go_big_quiet_op; go_big_quiet_on)
  refine wpM_do (by rfl) ?_
  intro K hK
  go_simp
  have XR5 := Ext.new XR4 (.cells #[.int .i64 1, .int .u64 5, .string .empty, .int .i64 1, .int .u64 7, .string .empty] 25)
  have RL := rd_lit (w := w9) (g := w9.heap.size) (C := #[.int .i64 1, .int .u64 5, .string .empty, .int .i64 1, .int .u64 7, .string .empty]) (e := 25) (fz := (0, 0)) (cs := cls Cel.d0) rfl rfl
  refine hK _ _ XR5 ?_
  clear K hK
  repeat (refine wpM_val (by rfl) ?_; intro K hK; go_big_quiet_op; go_big_quiet_on)
  refine wpM_do (by rfl) ?_
  intro K hK
  go_simp
  refine Calls.mono (cells_any _ _ _ _) ?_
  rintro e _ ⟨rfl, rfl⟩
  refine hK _ _ XR5 ?_
  clear K hK
  repeat (refine wpM_val (by rfl) ?_; intro K hK; go_big_quiet_op; go_big_quiet_on)
  refine wpM_do (by rfl) ?_
  intro K hK
  go_simp
  refine Calls.mono (sameCells_any Cel.d0 Cel.d0 _ _ 2 2 _ _ _ rfl rfl (RD.out.keep XR5) RL (by omega)) ?_
  rintro e w10 ⟨rfl, hx⟩
  have XR6 := XR5.then hx
  refine hK _ _ XR6 ?_
  clear K hK hx RL
  simp only [decide_true]
  repeat (refine wpM_val (by rfl) ?_; intro K hK; go_big_quiet_op; go_big_quiet_on)
  refine wpM_do (by rfl) ?_
  intro K hK
  go_simp
  refine Calls.mono (sameCells_any Cel.l0 Cel.l0 _ _ 3 3 _ _ _ rfl rfl (RJ.out.keep XR6) (R0.out.keep XR6) (by omega)) ?_
  rintro e w11 ⟨rfl, hx⟩
  have XR7 := XR6.then hx
  refine hK _ _ XR7 ?_
  clear K hK hx
  simp only [decide_true]
  repeat (refine wpM_val (by rfl) ?_; intro K hK; go_big_quiet_op; go_big_quiet_on)
  refine wpM_do (by rfl) ?_
  intro K hK
  go_simp
  refine Calls.mono (cNum_any _ _) ?_
  rintro e w12 ⟨rfl, hx⟩
  have XR8 := XR7.then hx
  refine hK _ _ XR8 ?_
  clear K hK hx
  repeat (refine wpM_val (by rfl) ?_; intro K hK; go_big_quiet_op; go_big_quiet_on)
  refine wpM_do (by rfl) ?_
  intro K hK
  go_simp
  refine Calls.mono (check_c _ _ _ (R0.out.keep XR8)) ?_
  rintro e w13 ⟨rfl, hx⟩
  have XR9 := XR8.then hx
  refine hK _ _ XR9 ?_
  clear K hK hx
  repeat (refine wpM_val (by rfl) ?_; intro K hK; go_big_quiet_op; go_big_quiet_on)
  refine wpM_do (by rfl) ?_
  intro K hK
  go_simp
  refine Calls.mono (cNum_any _ _) ?_
  rintro e w14 ⟨rfl, hx⟩
  have XR10 := XR9.then hx
  refine hK _ _ XR10 ?_
  clear K hK hx
  repeat (refine wpM_val (by rfl) ?_; intro K hK; go_big_quiet_op; go_big_quiet_on)
  refine wpM_do (by rfl) ?_
  intro K hK
  go_simp
  refine Calls.mono (less_a _) ?_
  rintro e w15 ⟨rfl, hx⟩
  have XR11 := XR10.then hx
  refine hK _ _ XR11 ?_
  clear K hK hx
  repeat (refine wpM_val (by rfl) ?_; intro K hK; go_big_quiet_op; go_big_quiet_on)
  refine wpM_nil ?_
  replace X := hid (X.out.then XR11)
  clear XR1 XR2 XR3 XR4 XR5 XR6 XR7 XR8 XR9 XR10 XR11 p0r p1r p2r p0 p1 p2
  go_wp2
  go_returns
  exact ⟨rfl, X.out⟩
end Go.Proofs.Ytikdmnedbfpkeaa
