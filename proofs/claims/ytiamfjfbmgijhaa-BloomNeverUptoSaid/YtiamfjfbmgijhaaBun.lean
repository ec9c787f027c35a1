/- BloomUnion: walk. -/
import Derived.Test.YtiamfjfbmgijhaaBmf
import Derived.Test.YtiamfjfbmgijhaaGho
import Derived.Test.YtiamfjfbmgijhaaApp
namespace Go.Proofs.Ytiamfjfbmgijhaa
open Go.RowKit Hy
theorem rowCl : RowT Try.prog 24 26 3 32 := RowT.mk' (z := .agg #[.int .i64 0, .int .u64 0, .string .empty]) Try.underlying24 (by kernel_rfl) rfl (by decide)
theorem cells_one (l : List C) : ∀ u ∈ l.flatMap C.cells, u.oneCell' = true := fun u hu => by
  obtain ⟨c, _, hu⟩ := List.mem_flatMap.1 hu
  simp only [C.cells, List.mem_cons, List.not_mem_nil, or_false] at hu
  rcases hu with rfl | rfl | rfl <;> rfl
set_option maxHeartbeats 8000000 in
set_option maxRecDepth 100000 in
theorem bunion_core (a b : List C) (A B : Option Addr) (la lb ca cb : Nat) (x0 x1 x2 x3 y0 y1 y2 y3 u0 u1 u2 u3 : Int) (p q r : Bool) (k : Int) (n : Nat) (s : ByteArray) (w : World)
    (ha : a.length = la) (hb : b.length = lb) (hra : Rd w A (a.flatMap C.cells)) (hrb : Rd w B (b.flatMap C.cells)) (hla : la ≤ 1048576) (hlb : lb ≤ 1048576) (hna : A = none → la = 0) (hnb : B = none → lb = 0)
    (HA : ∀ w', Ext w w' → Calls Try.prog 14 #[.slice A la ca] w' fun e w'' => e = .returned (.agg #[.int .u64 x0, .int .u64 x1, .int .u64 x2, .int .u64 x3]) ∧ Ext w' w'')
    (HB : ∀ w', Ext w w' → Calls Try.prog 14 #[.slice B lb cb] w' fun e w'' => e = .returned (.agg #[.int .u64 y0, .int .u64 y1, .int .u64 y2, .int .u64 y3]) ∧ Ext w' w'')
    (HV : ∀ w' D c, Rd w' D ((a ++ b).flatMap C.cells) → Calls Try.prog 14 #[.slice D (la + lb) c] w' fun e w'' => e = .returned (.agg #[.int .u64 u0, .int .u64 u1, .int .u64 u2, .int .u64 u3]) ∧ Ext w' w'')
    (GU : Gives Try.prog 24 #[.agg #[.int .u64 x0, .int .u64 x1, .int .u64 x2, .int .u64 x3], .agg #[.int .u64 y0, .int .u64 y1, .int .u64 y2, .int .u64 y3]] (.agg #[.int .u64 u0, .int .u64 u1, .int .u64 u2, .int .u64 u3]))
    (GW : Gives Try.prog 24 #[.agg #[.int .u64 y0, .int .u64 y1, .int .u64 y2, .int .u64 y3], .agg #[.int .u64 x0, .int .u64 x1, .int .u64 x2, .int .u64 x3]] (.agg #[.int .u64 u0, .int .u64 u1, .int .u64 u2, .int .u64 u3]))
    (GZ : Gives Try.prog 24 #[.agg #[.int .u64 u0, .int .u64 u1, .int .u64 u2, .int .u64 u3], .agg #[.int .u64 x0, .int .u64 x1, .int .u64 x2, .int .u64 x3]] (.agg #[.int .u64 u0, .int .u64 u1, .int .u64 u2, .int .u64 u3]))
    (MX : Gives Try.prog 13 #[.agg #[.int .u64 x0, .int .u64 x1, .int .u64 x2, .int .u64 x3], .agg #[.int .i64 k, .int .u64 n, .string s]] (.bool p))
    (MU : Gives Try.prog 13 #[.agg #[.int .u64 u0, .int .u64 u1, .int .u64 u2, .int .u64 u3], .agg #[.int .i64 k, .int .u64 n, .string s]] (.bool q))
    (MY : Gives Try.prog 13 #[.agg #[.int .u64 y0, .int .u64 y1, .int .u64 y2, .int .u64 y3], .agg #[.int .i64 k, .int .u64 n, .string s]] (.bool r))
    (hq : ∀ w, (binOp .eql 23 (.agg #[.int .u64 u0, .int .u64 u1, .int .u64 u2, .int .u64 u3]) (.agg #[.int .u64 u0, .int .u64 u1, .int .u64 u2, .int .u64 u3])).run Try.prog w = .ok (.bool true) w) (h1 : p = true → q = true) (h2 : r = true → q = true) :
    Calls Try.prog 9 #[.slice A la ca, .slice B lb cb, .agg #[.int .i64 k, .int .u64 n, .string s]] w fun e w' => e = .returned (.bool true) ∧ Ext w w' := by
  have X := hid ((ext_refl w).new (.cells #[.int .i64 k, .int .u64 n, .string s] 26))
  have BC := hid (Blk.new w 26 #[.int .i64 k, .int .u64 n, .string s])
  have RA := hid hra; have RB := hid hrb; have HA := hid HA; have HB := hid HB; have HV := hid HV; have HLA := hid hla; have HLB := hid hlb; have HNA := hid hna; have HNB := hid hnb; have HAL := hid ha; have HBL := hid hb
  clear hra hrb hla hlb hna hnb ha hb
  go_enter Try.func9, Try.ntmps9
  go_wp2_with fail
  refine Calls.mono (HA.out _ X.out) ?_
  rintro e w1 ⟨rfl, hx⟩
  replace X := hid (X.out.then hx)
  replace BC := hid (BC.out.keep hx)
  clear hx
  go_wp2_with fail
  refine Calls.mono (HB.out _ X.out) ?_
  rintro e w2 ⟨rfl, hx⟩
  replace X := hid (X.out.then hx)
  replace BC := hid (BC.out.keep hx)
  clear hx
  go_wp2_with fail
  refine Calls.mono (GU _) ?_
  rintro e w3 ⟨rfl, hx⟩
  have BX := hid (((Blk.new w2 23 #[.int .u64 x0, .int .u64 x1, .int .u64 x2, .int .u64 x3]).alloc (.cells #[.int .u64 y0, .int .u64 y1, .int .u64 y2, .int .u64 y3] 23)).keep hx)
  have BY := hid ((Blk.newAt (w := w2.alloc (.cells #[.int .u64 x0, .int .u64 x1, .int .u64 x2, .int .u64 x3] 23)) (g := w2.heap.size + 1) (t := 23) (cs := #[.int .u64 y0, .int .u64 y1, .int .u64 y2, .int .u64 y3]) (by simp)).keep hx)
  replace BC := hid (((BC.out.alloc (.cells #[.int .u64 x0, .int .u64 x1, .int .u64 x2, .int .u64 x3] 23)).alloc (.cells #[.int .u64 y0, .int .u64 y1, .int .u64 y2, .int .u64 y3] 23)).keep hx)
  replace X := hid (((X.out.new (.cells #[.int .u64 x0, .int .u64 x1, .int .u64 x2, .int .u64 x3] 23)).new (.cells #[.int .u64 y0, .int .u64 y1, .int .u64 y2, .int .u64 y3] 23)).then hx)
  clear hx
  go_wp2_with fail
  refine wp_gen (fun W => Ext w W ∧ Blk W w.heap.size 26 #[.int .i64 k, .int .u64 n, .string s] ∧ Blk W w2.heap.size 23 #[.int .u64 x0, .int .u64 x1, .int .u64 x2, .int .u64 x3] ∧ Blk W (w2.heap.size + 1) 23 #[.int .u64 y0, .int .u64 y1, .int .u64 y2, .int .u64 y3] ∧ Blk W w3.heap.size 23 #[.int .u64 u0, .int .u64 u1, .int .u64 u2, .int .u64 u3]) ⟨X.out.new _, BC.out.alloc _, BX.out.alloc _, BY.out.alloc _, Blk.new _ _ _⟩ ?_
  rintro W ⟨XW, B1, B2, B3, B4⟩
  clear X BC BX BY
  have XW := hid XW
  obtain ⟨c0, c1, c2⟩ : W.cell? ⟨w.heap.size, 0, none⟩ = some (.int .i64 k) ∧ W.cell? ⟨w.heap.size, 1, none⟩ = some (.int .u64 n) ∧ W.cell? ⟨w.heap.size, 2, none⟩ = some (.string s) := ⟨B1.cell 0, B1.cell 1, B1.cell 2⟩
  obtain ⟨p0, p1, p2, p3⟩ : W.cell? ⟨w2.heap.size, 0, none⟩ = some (.int .u64 x0) ∧ W.cell? ⟨w2.heap.size, 1, none⟩ = some (.int .u64 x1) ∧ W.cell? ⟨w2.heap.size, 2, none⟩ = some (.int .u64 x2) ∧ W.cell? ⟨w2.heap.size, 3, none⟩ = some (.int .u64 x3) := ⟨B2.cell 0, B2.cell 1, B2.cell 2, B2.cell 3⟩
  obtain ⟨q0, q1, q2, q3⟩ : W.cell? ⟨w2.heap.size + 1, 0, none⟩ = some (.int .u64 y0) ∧ W.cell? ⟨w2.heap.size + 1, 1, none⟩ = some (.int .u64 y1) ∧ W.cell? ⟨w2.heap.size + 1, 2, none⟩ = some (.int .u64 y2) ∧ W.cell? ⟨w2.heap.size + 1, 3, none⟩ = some (.int .u64 y3) := ⟨B3.cell 0, B3.cell 1, B3.cell 2, B3.cell 3⟩
  obtain ⟨r0, r1, r2, r3⟩ : W.cell? ⟨w3.heap.size, 0, none⟩ = some (.int .u64 u0) ∧ W.cell? ⟨w3.heap.size, 1, none⟩ = some (.int .u64 u1) ∧ W.cell? ⟨w3.heap.size, 2, none⟩ = some (.int .u64 u2) ∧ W.cell? ⟨w3.heap.size, 3, none⟩ = some (.int .u64 u3) := ⟨B4.cell 0, B4.cell 1, B4.cell 2, B4.cell 3⟩
  have c0r := cell_regrown c0
  have c1r := cell_regrown c1
  have c2r := cell_regrown c2
  have p0r := cell_regrown p0
  have p1r := cell_regrown p1
  have p2r := cell_regrown p2
  have p3r := cell_regrown p3
  have q0r := cell_regrown q0
  have q1r := cell_regrown q1
  have q2r := cell_regrown q2
  have q3r := cell_regrown q3
  have r0r := cell_regrown r0
  have r1r := cell_regrown r1
  have r2r := cell_regrown r2
  have r3r := cell_regrown r3
  clear B1 B2 B3 B4
  refine wp_region_walk [(0, false), (1, true), (2, true), (4, true), (6, true), (3, false), (5, false), (7, false), (8, false), (9, true), (10, true), (11, true), (12, true), (13, true), (14, true), (15, false), (16, true), (17, true), (18, true), (19, true), (20, true), (22, true), (21, false), (23, true), (24, true), (25, true), (26, true), (27, true), (28, false), (29, true), (30, true), (31, true), (32, true), (33, false), (34, true), (35, true), (36, true), (37, true), (38, true), (39, false), (40, true), (41, true), (42, true), (43, true), (44, false), (45, true), (46, true), (47, true)] (by kernel_rfl) (by kernel_rfl) (fun _ _ _ _ _ h => h) (by kernel_rfl) (by rfl) ?_
  simp only [List.filterMap_cons, List.filterMap_nil, List.getElem?_toArray, List.getElem?_cons_zero, List.getElem?_cons_succ, Option.map_some]
  have XR0 := (ext_refl W).draw
  repeat (first | (refine wpM_skip (by rfl) ?_; simp only [Act.put, List.setIfInBounds_toArray, List.set_cons_zero, List.set_cons_succ]) | (refine wpM_val (by rfl) ?_; intro K hK; go_big_quiet_op; go_big_quiet_on))
  refine wpM_do (by rfl) ?_
  intro K hK
  go_simp
  refine Calls.mono (bbegun_any _) ?_
  rintro e v1 ⟨rfl, hx⟩
  have XR1 := XR0.then hx
  refine hK _ _ XR1 ?_
  clear K hK
  repeat (first | (refine wpM_skip (by rfl) ?_; simp only [Act.put, List.setIfInBounds_toArray, List.set_cons_zero, List.set_cons_succ]) | (refine wpM_val (by rfl) ?_; intro K hK; go_big_quiet_op; go_big_quiet_on))
  refine wpM_do (by rfl) ?_
  intro K hK
  go_simp
  have HOW := own_new (w := v1) (e := 26) (size := 3) (base := W.heap.size) (n := 0) (C := #[]) (g := v1.heap.size) rfl rfl XR1.size (Nat.zero_le _)
  have XR2 := Ext.new XR1 (.cells #[] 26)
  refine hK _ _ XR2 ?_
  clear K hK
  repeat (first | (refine wpM_skip (by rfl) ?_; simp only [Act.put, List.setIfInBounds_toArray, List.set_cons_zero, List.set_cons_succ]) | (refine wpM_val (by rfl) ?_; intro K hK; go_big_quiet_op; go_big_quiet_on))
  refine wpM_do (by rfl) ?_
  intro K hK
  refine wp_app (.tmp 20) (.tmp 21) rowCl rfl _ 0 [] rfl HOW _ la (a.flatMap C.cells) rfl (Src.rd Try.underlying24 A la ca _ (by rw [flat_length (m := 3) (fun _ => rfl), HAL.out]) (RA.out.keep (XW.out.then XR2)) (cells_one _) HNA.out) (by have := HLA.out; unfold maxLen; omega) (by have := HLA.out; omega) XR2.size ?_
  intro v' v2 hown2 _ _ hbel
  have XR3 : Ext W v2 := Below.trans XR2 hbel
  refine hK _ _ XR3 ?_
  clear K hK HOW hbel
  simp only [Act.put, List.setIfInBounds_toArray, List.set_cons_zero, List.set_cons_succ]
  repeat (first | (refine wpM_skip (by rfl) ?_; simp only [Act.put, List.setIfInBounds_toArray, List.set_cons_zero, List.set_cons_succ]) | (refine wpM_val (by rfl) ?_; intro K hK; go_big_quiet_op; go_big_quiet_on))
  refine wpM_do (by rfl) ?_
  intro K hK
  refine wp_app (.tmp 22) (.tmp 23) rowCl rfl _ (0 + la) ([] ++ a.flatMap C.cells) rfl hown2 _ lb (b.flatMap C.cells) rfl (Src.rd Try.underlying24 B lb cb _ (by rw [flat_length (m := 3) (fun _ => rfl), HBL.out]) (RB.out.keep (XW.out.then XR3)) (cells_one _) HNB.out) (by have := HLA.out; have := HLB.out; unfold maxLen; omega) (by have := HLA.out; have := HLB.out; omega) XR3.size ?_
  intro v'' v3 hown3 _ _ hbel
  have XR4 : Ext W v3 := Below.trans XR3 hbel
  refine hK _ _ XR4 ?_
  clear K hK hown2 hbel
  obtain ⟨D, dc, rfl, hrd, _, _, _⟩ := Rd.owned hown3
  rw [List.nil_append, ← List.flatMap_append] at hrd
  rw [Nat.zero_add]
  simp only [Act.put, List.setIfInBounds_toArray, List.set_cons_zero, List.set_cons_succ]
  repeat (first | (refine wpM_skip (by rfl) ?_; simp only [Act.put, List.setIfInBounds_toArray, List.set_cons_zero, List.set_cons_succ]) | (refine wpM_val (by rfl) ?_; intro K hK; go_big_quiet_op; go_big_quiet_on))
  refine wpM_do (by rfl) ?_
  intro K hK
  go_simp
  refine Calls.mono (HV.out _ _ _ hrd) ?_
  rintro e v4 ⟨rfl, hx⟩
  have XR5 := XR4.then hx
  refine hK _ _ XR5 ?_
  clear K hK
  repeat (first | (refine wpM_skip (by rfl) ?_; simp only [Act.put, List.setIfInBounds_toArray, List.set_cons_zero, List.set_cons_succ]) | (refine wpM_val (by rfl) ?_; intro K hK; go_big_quiet_op; go_big_quiet_on))
  refine wpM_do (by rfl) ?_
  intro K hK
  go_simp
  refine Calls.mono (GW _) ?_
  rintro e v5 ⟨rfl, hx⟩
  have XR6 := XR5.then hx
  refine hK _ _ XR6 ?_
  clear K hK
  repeat (first | (refine wpM_skip (by rfl) ?_; simp only [Act.put, List.setIfInBounds_toArray, List.set_cons_zero, List.set_cons_succ]) | (refine wpM_val (by rfl) ?_; intro K hK; go_big_quiet_op; go_big_quiet_on))
  refine wpM_do (by rfl) ?_
  intro K hK
  go_simp
  refine Calls.mono (GZ _) ?_
  rintro e v6 ⟨rfl, hx⟩
  have XR7 := XR6.then hx
  refine hK _ _ XR7 ?_
  clear K hK
  repeat (first | (refine wpM_skip (by rfl) ?_; simp only [Act.put, List.setIfInBounds_toArray, List.set_cons_zero, List.set_cons_succ]) | (refine wpM_val (by rfl) ?_; intro K hK; go_big_quiet_op; go_big_quiet_on))
  refine wpM_do (by rfl) ?_
  intro K hK
  go_simp
  refine Calls.mono (MX _) ?_
  rintro e v7 ⟨rfl, hx⟩
  have XR8 := XR7.then hx
  refine hK _ _ XR8 ?_
  clear K hK
  cases p with
  | false =>
    cases r with
    | false =>
      repeat (first | (refine wpM_skip (by rfl) ?_; simp only [Act.put, List.setIfInBounds_toArray, List.set_cons_zero, List.set_cons_succ]) | (refine wpM_val (by rfl) ?_; intro K hK; go_big_quiet_op; go_big_quiet_on))
      refine wpM_do (by rfl) ?_
      intro K hK
      go_simp
      refine Calls.mono (MY _) ?_
      rintro e v8 ⟨rfl, hx⟩
      have XR9 := XR8.then hx
      refine hK _ _ XR9 ?_
      clear K hK hx
      repeat (first | (refine wpM_skip (by rfl) ?_; simp only [Act.put, List.setIfInBounds_toArray, List.set_cons_zero, List.set_cons_succ]) | (refine wpM_val (by rfl) ?_; intro K hK; go_big_quiet_op; go_big_quiet_on))
      refine wpM_nil ?_
      have XE := hid (XW.out.then XR9)
      clear c0r c1r c2r p0r p1r p2r p3r q0r q1r q2r q3r r0r r1r r2r r3r
      go_wp2
      go_returns
      exact ⟨rfl, XE.out⟩
    | true =>
      obtain rfl := h2 rfl
      repeat (first | (refine wpM_skip (by rfl) ?_; simp only [Act.put, List.setIfInBounds_toArray, List.set_cons_zero, List.set_cons_succ]) | (refine wpM_val (by rfl) ?_; intro K hK; go_big_quiet_op; go_big_quiet_on))
      refine wpM_do (by rfl) ?_
      intro K hK
      go_simp
      refine Calls.mono (MY _) ?_
      rintro e v8 ⟨rfl, hx⟩
      have XR9 := XR8.then hx
      refine hK _ _ XR9 ?_
      clear K hK hx
      repeat (first | (refine wpM_skip (by rfl) ?_; simp only [Act.put, List.setIfInBounds_toArray, List.set_cons_zero, List.set_cons_succ]) | (refine wpM_val (by rfl) ?_; intro K hK; go_big_quiet_op; go_big_quiet_on))
      refine wpM_do (by rfl) ?_
      intro K hK
      go_simp
      refine Calls.mono (MU _) ?_
      rintro e v9 ⟨rfl, hx⟩
      have XR10 := XR9.then hx
      refine hK _ _ XR10 ?_
      clear K hK hx
      repeat (first | (refine wpM_skip (by rfl) ?_; simp only [Act.put, List.setIfInBounds_toArray, List.set_cons_zero, List.set_cons_succ]) | (refine wpM_val (by rfl) ?_; intro K hK; go_big_quiet_op; go_big_quiet_on))
      refine wpM_nil ?_
      have XE := hid (XW.out.then XR10)
      clear c0r c1r c2r p0r p1r p2r p3r q0r q1r q2r q3r r0r r1r r2r r3r
      go_wp2
      go_returns
      exact ⟨rfl, XE.out⟩
  | true =>
    obtain rfl := h1 rfl
    cases r with
    | false =>
      repeat (first | (refine wpM_skip (by rfl) ?_; simp only [Act.put, List.setIfInBounds_toArray, List.set_cons_zero, List.set_cons_succ]) | (refine wpM_val (by rfl) ?_; intro K hK; go_big_quiet_op; go_big_quiet_on))
      refine wpM_do (by rfl) ?_
      intro K hK
      go_simp
      refine Calls.mono (MU _) ?_
      rintro e v8 ⟨rfl, hx⟩
      have XR9 := XR8.then hx
      refine hK _ _ XR9 ?_
      clear K hK hx
      repeat (first | (refine wpM_skip (by rfl) ?_; simp only [Act.put, List.setIfInBounds_toArray, List.set_cons_zero, List.set_cons_succ]) | (refine wpM_val (by rfl) ?_; intro K hK; go_big_quiet_op; go_big_quiet_on))
      refine wpM_do (by rfl) ?_
      intro K hK
      go_simp
      refine Calls.mono (MY _) ?_
      rintro e v9 ⟨rfl, hx⟩
      have XR10 := XR9.then hx
      refine hK _ _ XR10 ?_
      clear K hK hx
      repeat (first | (refine wpM_skip (by rfl) ?_; simp only [Act.put, List.setIfInBounds_toArray, List.set_cons_zero, List.set_cons_succ]) | (refine wpM_val (by rfl) ?_; intro K hK; go_big_quiet_op; go_big_quiet_on))
      refine wpM_nil ?_
      have XE := hid (XW.out.then XR10)
      clear c0r c1r c2r p0r p1r p2r p3r q0r q1r q2r q3r r0r r1r r2r r3r
      go_wp2
      go_returns
      exact ⟨rfl, XE.out⟩
    | true =>
      repeat (first | (refine wpM_skip (by rfl) ?_; simp only [Act.put, List.setIfInBounds_toArray, List.set_cons_zero, List.set_cons_succ]) | (refine wpM_val (by rfl) ?_; intro K hK; go_big_quiet_op; go_big_quiet_on))
      refine wpM_do (by rfl) ?_
      intro K hK
      go_simp
      refine Calls.mono (MU _) ?_
      rintro e v8 ⟨rfl, hx⟩
      have XR9 := XR8.then hx
      refine hK _ _ XR9 ?_
      clear K hK hx
      repeat (first | (refine wpM_skip (by rfl) ?_; simp only [Act.put, List.setIfInBounds_toArray, List.set_cons_zero, List.set_cons_succ]) | (refine wpM_val (by rfl) ?_; intro K hK; go_big_quiet_op; go_big_quiet_on))
      refine wpM_do (by rfl) ?_
      intro K hK
      go_simp
      refine Calls.mono (MY _) ?_
      rintro e v9 ⟨rfl, hx⟩
      have XR10 := XR9.then hx
      refine hK _ _ XR10 ?_
      clear K hK hx
      repeat (first | (refine wpM_skip (by rfl) ?_; simp only [Act.put, List.setIfInBounds_toArray, List.set_cons_zero, List.set_cons_succ]) | (refine wpM_val (by rfl) ?_; intro K hK; go_big_quiet_op; go_big_quiet_on))
      refine wpM_do (by rfl) ?_
      intro K hK
      go_simp
      refine Calls.mono (MU _) ?_
      rintro e v10 ⟨rfl, hx⟩
      have XR11 := XR10.then hx
      refine hK _ _ XR11 ?_
      clear K hK hx
      repeat (first | (refine wpM_skip (by rfl) ?_; simp only [Act.put, List.setIfInBounds_toArray, List.set_cons_zero, List.set_cons_succ]) | (refine wpM_val (by rfl) ?_; intro K hK; go_big_quiet_op; go_big_quiet_on))
      refine wpM_nil ?_
      have XE := hid (XW.out.then XR11)
      clear c0r c1r c2r p0r p1r p2r p3r q0r q1r q2r q3r r0r r1r r2r r3r
      go_wp2
      go_returns
      exact ⟨rfl, XE.out⟩
end Go.Proofs.Ytiamfjfbmgijhaa
