/- Conditions: leafSet: the walk (printed by gen_qpq.py). Conditions: walk[set]: the walk (printed by gen_qpw.py). Conditions: lists of what is known, of filters; RawPrune: walks. -/
import Derived.Test.YtpheegfanljeeaaQba
import Derived.Test.YtpheegfanljeeaaQad
section
namespace Go.Proofs.Ytpheegfanljeeaa
open Go.RowKit Hy
set_option maxHeartbeats 12800000 in
set_option maxRecDepth 100000 in
theorem leafSet_four (col ck rows nulls lk mk : Int) (cn ln mn : Nat) (cs ls mss : ByteArray) (f : Bloom.F) (w : World) :
    Calls Try.prog 82 #[cndV (4, col, ck, cn, cs), .agg #[.int .i64 rows, .int .i64 nulls, .int .i64 lk, .int .u64 (ln : Int), .string ls, .int .i64 mk, .int .u64 (mn : Int), .string mss], fourV f] w fun e w' => e = .returned (.int .i64 (Cnd.kn (4, col, ck, cn, cs) (rows, nulls, (lk, ln, ls), mk, mn, mss) f : Nat)) ∧ Ext w w' := by
  obtain ⟨R, hR⟩ : ∃ R, R = Cnd.kn (4, col, ck, cn, cs) (rows, nulls, (lk, ln, ls), mk, mn, mss) f := ⟨_, rfl⟩
  rw [← hR]
  unfold Cnd.kn at hR
  simp only at hR
  unfold Cnd.knB at hR
  have HMS := hid (fun a b c wx => maySet_any a b c wx)
  rw [if_pos rfl] at hR
  have HE := hid hR
  clear hR
  go_enter Try.func82, Try.ntmps82
  go_upto_region 1 with fail
  refine wp_gen (fun w' => Ext w w' ∧ Blk w' w.heap.size 39 #[.int .i64 (4), .int .i64 col, .int .i64 ck, .int .u64 (cn : Int), .string cs] ∧ Blk w' (w.heap.size + 1) 45 #[.int .i64 rows, .int .i64 nulls, .int .i64 lk, .int .u64 (ln : Int), .string ls, .int .i64 mk, .int .u64 (mn : Int), .string mss] ∧ Blk w' (w.heap.size + 1 + 1) 48 (Bloom.arr f))
    ⟨(((ext_refl _).new _).new _).new _, ((Blk.new _ _ _).alloc _).alloc _, Blk.alloc (Blk.newAt (by simp)) _, Blk.newAt (by simp)⟩ ?_
  rintro wz ⟨B, B1, B2, B3⟩
  unfold Bloom.arr at B3
  have s0r := cell_regrown (B2.cell 0)
  have s1r := cell_regrown (B2.cell 1)
  refine wp_region_walk [(0, true), (1, true), (2, true), (3, true), (4, true), (5, true), (6, true), (7, true), (8, true), (9, true)] (by kernel_rfl) (by kernel_rfl) (fun _ _ _ _ _ h => h) (by kernel_rfl) (by rfl) ?_
  simp only [List.filterMap_cons, List.filterMap_nil, List.getElem?_toArray, List.getElem?_cons_zero, List.getElem?_cons_succ, Option.map_some]
  repeat (refine wpM_val (by rfl) ?_; intro K hK; go_big_quiet_op; go_big_quiet_on)
  refine wpM_nil ?_
  clear s0r s1r
  have hB := B.draw
  have hB1 := B1.keep (Ext.draw (ext_refl wz))
  have hB2 := B2.keep (Ext.draw (ext_refl wz))
  have hB3 := B3.keep (Ext.draw (ext_refl wz))
  clear B B1 B2 B3
  generalize wz.drew = wy at hB hB1 hB2 hB3 ⊢
  have B := hB
  have B1 := hB1
  have B2 := hB2
  have B3 := hB3
  clear hB hB1 hB2 hB3
  have a0 := B1.cell 0; have a1 := B1.cell 1; have a2 := B1.cell 2; have a3 := B1.cell 3; have a4 := B1.cell 4; have s0 := B2.cell 0; have s1 := B2.cell 1; have s2 := B2.cell 2; have s3 := B2.cell 3; have s4 := B2.cell 4; have s5 := B2.cell 5; have s6 := B2.cell 6; have s7 := B2.cell 7; have f0 := B3.cell 0; have f1 := B3.cell 1; have f2 := B3.cell 2; have f3 := B3.cell 3
  go_wp2_with (first | (go_at_call 83; refine (HMS.out _ _ _ _).mono ?_; rintro e w1 ⟨rfl, rfl⟩))
  go_returns
  exact ⟨ret_int (by rw [HE.out]), B⟩
set_option maxHeartbeats 12800000 in
set_option maxRecDepth 100000 in
theorem leafSet_none (col ck rows nulls lk mk : Int) (cn ln mn : Nat) (cs ls mss : ByteArray) (f : Bloom.F) (w : World) (op : Int) (h4 : op ≠ 4) (hsm : ¬ nulls < rows) :
    Calls Try.prog 82 #[cndV (op, col, ck, cn, cs), .agg #[.int .i64 rows, .int .i64 nulls, .int .i64 lk, .int .u64 (ln : Int), .string ls, .int .i64 mk, .int .u64 (mn : Int), .string mss], fourV f] w fun e w' => e = .returned (.int .i64 (Cnd.kn (op, col, ck, cn, cs) (rows, nulls, (lk, ln, ls), mk, mn, mss) f : Nat)) ∧ Ext w w' := by
  obtain ⟨R, hR⟩ : ∃ R, R = Cnd.kn (op, col, ck, cn, cs) (rows, nulls, (lk, ln, ls), mk, mn, mss) f := ⟨_, rfl⟩
  rw [← hR]
  unfold Cnd.kn at hR
  simp only at hR
  unfold Cnd.knB at hR
  have HMS := hid (fun a b c wx => maySet_any a b c wx)
  rw [if_neg h4, if_pos (decide_eq_false hsm)] at hR
  have e4 : (op == 4) = false := beq_eq_false_iff_ne.2 h4
  have HE := hid hR
  clear hR h4
  go_enter Try.func82, Try.ntmps82
  go_upto_region 1 with fail
  refine wp_gen (fun w' => Ext w w' ∧ Blk w' w.heap.size 39 #[.int .i64 (op), .int .i64 col, .int .i64 ck, .int .u64 (cn : Int), .string cs] ∧ Blk w' (w.heap.size + 1) 45 #[.int .i64 rows, .int .i64 nulls, .int .i64 lk, .int .u64 (ln : Int), .string ls, .int .i64 mk, .int .u64 (mn : Int), .string mss] ∧ Blk w' (w.heap.size + 1 + 1) 48 (Bloom.arr f))
    ⟨(((ext_refl _).new _).new _).new _, ((Blk.new _ _ _).alloc _).alloc _, Blk.alloc (Blk.newAt (by simp)) _, Blk.newAt (by simp)⟩ ?_
  rintro wz ⟨B, B1, B2, B3⟩
  unfold Bloom.arr at B3
  have s0r := cell_regrown (B2.cell 0)
  have s1r := cell_regrown (B2.cell 1)
  refine wp_region_walk [(0, true), (1, true), (2, true), (3, true), (4, true), (5, true), (6, true), (7, true), (8, true), (9, true)] (by kernel_rfl) (by kernel_rfl) (fun _ _ _ _ _ h => h) (by kernel_rfl) (by rfl) ?_
  simp only [List.filterMap_cons, List.filterMap_nil, List.getElem?_toArray, List.getElem?_cons_zero, List.getElem?_cons_succ, Option.map_some]
  repeat (refine wpM_val (by rfl) ?_; intro K hK; go_big_quiet_op; go_big_quiet_on)
  refine wpM_nil ?_
  clear s0r s1r
  have hB := B.draw
  have hB1 := B1.keep (Ext.draw (ext_refl wz))
  have hB2 := B2.keep (Ext.draw (ext_refl wz))
  have hB3 := B3.keep (Ext.draw (ext_refl wz))
  clear B B1 B2 B3
  generalize wz.drew = wy at hB hB1 hB2 hB3 ⊢
  have B := hB
  have B1 := hB1
  have B2 := hB2
  have B3 := hB3
  clear hB hB1 hB2 hB3
  have a0 := B1.cell 0; have a1 := B1.cell 1; have a2 := B1.cell 2; have a3 := B1.cell 3; have a4 := B1.cell 4; have s0 := B2.cell 0; have s1 := B2.cell 1; have s2 := B2.cell 2; have s3 := B2.cell 3; have s4 := B2.cell 4; have s5 := B2.cell 5; have s6 := B2.cell 6; have s7 := B2.cell 7; have f0 := B3.cell 0; have f1 := B3.cell 1; have f2 := B3.cell 2; have f3 := B3.cell 3
  go_wp2_with (first | (go_at_call 83; refine (HMS.out _ _ _ _).mono ?_; rintro e w1 ⟨rfl, rfl⟩))
  go_returns
  exact ⟨ret_int (by rw [HE.out]), B⟩
set_option maxHeartbeats 12800000 in
set_option maxRecDepth 100000 in
theorem leafSet_one (col ck rows nulls lk mk : Int) (cn ln mn : Nat) (cs ls mss : ByteArray) (f : Bloom.F) (w : World) (hf : f.ok) (hcn : cn < 18446744073709551616) (hcs : cs.size ≤ 140737488351232) (hls : ls.size ≤ 140737488355328) (hms : mss.size ≤ 140737488355328) (hsm : nulls < rows) :
    Calls Try.prog 82 #[cndV (1, col, ck, cn, cs), .agg #[.int .i64 rows, .int .i64 nulls, .int .i64 lk, .int .u64 (ln : Int), .string ls, .int .i64 mk, .int .u64 (mn : Int), .string mss], fourV f] w fun e w' => e = .returned (.int .i64 (Cnd.kn (1, col, ck, cn, cs) (rows, nulls, (lk, ln, ls), mk, mn, mss) f : Nat)) ∧ Ext w w' := by
  obtain ⟨R, hR⟩ : ∃ R, R = Cnd.kn (1, col, ck, cn, cs) (rows, nulls, (lk, ln, ls), mk, mn, mss) f := ⟨_, rfl⟩
  rw [← hR]
  unfold Cnd.kn at hR
  simp only at hR
  unfold Cnd.knB at hR
  have HMS := hid (fun a b c wx => maySet_any a b c wx)
  rw [if_neg (by decide), if_neg (by rw [decide_eq_true hsm]; decide), if_pos rfl] at hR
  have HL1 := hid (fun wx => cellLess_any (ck, cn, cs) (lk, ln, ls) wx (Nat.le_trans hcs (by decide)) hls)
  have HL2 := hid (fun wx => cellLess_any (mk, mn, mss) (ck, cn, cs) wx hms (Nat.le_trans hcs (by decide)))
  have HM := hid (fun wx => mayOf_any f ck cn cs wx hf hcn hcs)
  have hq := fun w => cel_eql lk mk ln mn ls mss w
  generalize Cel.less (ck, cn, cs) (lk, ln, ls) = l1 at *
  generalize Cel.less (mk, mn, mss) (ck, cn, cs) = l2 at *
  generalize Bloom.may f ⟨ck, cn, cs⟩ = l3 at *
  generalize decide (((lk, ln, ls) : Cel) = (mk, mn, mss)) = l4 at *
  clear hf hcn hcs hls hms
  rcases l1_ways l1 l2 l3 l4 with rfl | ⟨rfl, rfl⟩ | ⟨rfl, rfl, rfl⟩ | ⟨rfl, rfl, rfl, rfl⟩ | ⟨rfl, rfl, rfl, rfl⟩
  all_goals simp only [Bool.true_or, Bool.or_true, Bool.false_or, Bool.not_true, Bool.not_false, if_true, Bool.false_eq_true, if_false] at hR
  all_goals have HE := hid hR
  all_goals clear hR
  all_goals (
    go_enter Try.func82, Try.ntmps82
    go_upto_region 1 with fail
    refine wp_gen (fun w' => Ext w w' ∧ Blk w' w.heap.size 39 #[.int .i64 (1), .int .i64 col, .int .i64 ck, .int .u64 (cn : Int), .string cs] ∧ Blk w' (w.heap.size + 1) 45 #[.int .i64 rows, .int .i64 nulls, .int .i64 lk, .int .u64 (ln : Int), .string ls, .int .i64 mk, .int .u64 (mn : Int), .string mss] ∧ Blk w' (w.heap.size + 1 + 1) 48 (Bloom.arr f))
      ⟨(((ext_refl _).new _).new _).new _, ((Blk.new _ _ _).alloc _).alloc _, Blk.alloc (Blk.newAt (by simp)) _, Blk.newAt (by simp)⟩ ?_
    rintro wz ⟨B, B1, B2, B3⟩
    unfold Bloom.arr at B3
    have s0r := cell_regrown (B2.cell 0)
    have s1r := cell_regrown (B2.cell 1)
    refine wp_region_walk [(0, true), (1, true), (2, true), (3, true), (4, true), (5, true), (6, true), (7, true), (8, true), (9, true)] (by kernel_rfl) (by kernel_rfl) (fun _ _ _ _ _ h => h) (by kernel_rfl) (by rfl) ?_
    simp only [List.filterMap_cons, List.filterMap_nil, List.getElem?_toArray, List.getElem?_cons_zero, List.getElem?_cons_succ, Option.map_some]
    repeat (refine wpM_val (by rfl) ?_; intro K hK; go_big_quiet_op; go_big_quiet_on)
    refine wpM_nil ?_
    clear s0r s1r
    have hB := B.draw
    have hB1 := B1.keep (Ext.draw (ext_refl wz))
    have hB2 := B2.keep (Ext.draw (ext_refl wz))
    have hB3 := B3.keep (Ext.draw (ext_refl wz))
    clear B B1 B2 B3
    generalize wz.drew = wy at hB hB1 hB2 hB3 ⊢
    have B := hB
    have B1 := hB1
    have B2 := hB2
    have B3 := hB3
    clear hB hB1 hB2 hB3
    have a0 := B1.cell 0; have a1 := B1.cell 1; have a2 := B1.cell 2; have a3 := B1.cell 3; have a4 := B1.cell 4; have s0 := B2.cell 0; have s1 := B2.cell 1; have s2 := B2.cell 2; have s3 := B2.cell 3; have s4 := B2.cell 4; have s5 := B2.cell 5; have s6 := B2.cell 6; have s7 := B2.cell 7; have f0 := B3.cell 0; have f1 := B3.cell 1; have f2 := B3.cell 2; have f3 := B3.cell 3
    go_wp2_with (first | (go_at_call 83; refine (HMS.out _ _ _ _).mono ?_; rintro e w1 ⟨rfl, rfl⟩) | (go_at_call 76; go_loud (refine (HL1.out _).mono ?_; rintro e w2 ⟨rfl, x2⟩; replace B := B.then x2; replace B1 := B1.keep x2; replace B2 := B2.keep x2; replace B3 := B3.keep x2; clear x2; clear HL1; replace a0 := B1.cell 0; replace a1 := B1.cell 1; replace a2 := B1.cell 2; replace a3 := B1.cell 3; replace a4 := B1.cell 4; replace s0 := B2.cell 0; replace s1 := B2.cell 1; replace s2 := B2.cell 2; replace s3 := B2.cell 3; replace s4 := B2.cell 4; replace s5 := B2.cell 5; replace s6 := B2.cell 6; replace s7 := B2.cell 7; replace f0 := B3.cell 0; replace f1 := B3.cell 1; replace f2 := B3.cell 2; replace f3 := B3.cell 3)) | (go_at_call 76; go_loud (refine (HL2.out _).mono ?_; rintro e w2 ⟨rfl, x2⟩; replace B := B.then x2; replace B1 := B1.keep x2; replace B2 := B2.keep x2; replace B3 := B3.keep x2; clear x2; clear HL2; replace a0 := B1.cell 0; replace a1 := B1.cell 1; replace a2 := B1.cell 2; replace a3 := B1.cell 3; replace a4 := B1.cell 4; replace s0 := B2.cell 0; replace s1 := B2.cell 1; replace s2 := B2.cell 2; replace s3 := B2.cell 3; replace s4 := B2.cell 4; replace s5 := B2.cell 5; replace s6 := B2.cell 6; replace s7 := B2.cell 7; replace f0 := B3.cell 0; replace f1 := B3.cell 1; replace f2 := B3.cell 2; replace f3 := B3.cell 3)) | (go_at_call 97; go_loud (refine (HM.out _).mono ?_; rintro e w2 ⟨rfl, x2⟩; replace B := B.then x2; replace B1 := B1.keep x2; replace B2 := B2.keep x2; replace B3 := B3.keep x2; clear x2; replace a0 := B1.cell 0; replace a1 := B1.cell 1; replace a2 := B1.cell 2; replace a3 := B1.cell 3; replace a4 := B1.cell 4; replace s0 := B2.cell 0; replace s1 := B2.cell 1; replace s2 := B2.cell 2; replace s3 := B2.cell 3; replace s4 := B2.cell 4; replace s5 := B2.cell 5; replace s6 := B2.cell 6; replace s7 := B2.cell 7; replace f0 := B3.cell 0; replace f1 := B3.cell 1; replace f2 := B3.cell 2; replace f3 := B3.cell 3)))
    go_returns
    exact ⟨ret_int (by rw [HE.out]), B⟩)
set_option maxHeartbeats 12800000 in
set_option maxRecDepth 100000 in
theorem leafSet_two (col ck rows nulls lk mk : Int) (cn ln mn : Nat) (cs ls mss : ByteArray) (f : Bloom.F) (w : World) (hcs : cs.size ≤ 140737488351232) (hls : ls.size ≤ 140737488355328) (hms : mss.size ≤ 140737488355328) (hsm : nulls < rows) :
    Calls Try.prog 82 #[cndV (2, col, ck, cn, cs), .agg #[.int .i64 rows, .int .i64 nulls, .int .i64 lk, .int .u64 (ln : Int), .string ls, .int .i64 mk, .int .u64 (mn : Int), .string mss], fourV f] w fun e w' => e = .returned (.int .i64 (Cnd.kn (2, col, ck, cn, cs) (rows, nulls, (lk, ln, ls), mk, mn, mss) f : Nat)) ∧ Ext w w' := by
  obtain ⟨R, hR⟩ : ∃ R, R = Cnd.kn (2, col, ck, cn, cs) (rows, nulls, (lk, ln, ls), mk, mn, mss) f := ⟨_, rfl⟩
  rw [← hR]
  unfold Cnd.kn at hR
  simp only at hR
  unfold Cnd.knB at hR
  have HMS := hid (fun a b c wx => maySet_any a b c wx)
  rw [if_neg (by decide), if_neg (by rw [decide_eq_true hsm]; decide), if_neg (by decide), if_pos rfl] at hR
  have HL1 := hid (fun wx => cellLess_any (mk, mn, mss) (ck, cn, cs) wx hms (Nat.le_trans hcs (by decide)))
  have HL2 := hid (fun wx => cellLess_any (lk, ln, ls) (ck, cn, cs) wx hls (Nat.le_trans hcs (by decide)))
  generalize Cel.less (mk, mn, mss) (ck, cn, cs) = l1 at *
  generalize Cel.less (lk, ln, ls) (ck, cn, cs) = l2 at *
  clear hcs hls hms
  cases l1 <;> cases l2
  all_goals simp only [Bool.or_true, Bool.not_true, Bool.not_false, Bool.or_false] at hR
  all_goals have HE := hid hR
  all_goals clear hR
  all_goals (
    go_enter Try.func82, Try.ntmps82
    go_upto_region 1 with fail
    refine wp_gen (fun w' => Ext w w' ∧ Blk w' w.heap.size 39 #[.int .i64 (2), .int .i64 col, .int .i64 ck, .int .u64 (cn : Int), .string cs] ∧ Blk w' (w.heap.size + 1) 45 #[.int .i64 rows, .int .i64 nulls, .int .i64 lk, .int .u64 (ln : Int), .string ls, .int .i64 mk, .int .u64 (mn : Int), .string mss] ∧ Blk w' (w.heap.size + 1 + 1) 48 (Bloom.arr f))
      ⟨(((ext_refl _).new _).new _).new _, ((Blk.new _ _ _).alloc _).alloc _, Blk.alloc (Blk.newAt (by simp)) _, Blk.newAt (by simp)⟩ ?_
    rintro wz ⟨B, B1, B2, B3⟩
    unfold Bloom.arr at B3
    have s0r := cell_regrown (B2.cell 0)
    have s1r := cell_regrown (B2.cell 1)
    refine wp_region_walk [(0, true), (1, true), (2, true), (3, true), (4, true), (5, true), (6, true), (7, true), (8, true), (9, true)] (by kernel_rfl) (by kernel_rfl) (fun _ _ _ _ _ h => h) (by kernel_rfl) (by rfl) ?_
    simp only [List.filterMap_cons, List.filterMap_nil, List.getElem?_toArray, List.getElem?_cons_zero, List.getElem?_cons_succ, Option.map_some]
    repeat (refine wpM_val (by rfl) ?_; intro K hK; go_big_quiet_op; go_big_quiet_on)
    refine wpM_nil ?_
    clear s0r s1r
    have hB := B.draw
    have hB1 := B1.keep (Ext.draw (ext_refl wz))
    have hB2 := B2.keep (Ext.draw (ext_refl wz))
    have hB3 := B3.keep (Ext.draw (ext_refl wz))
    clear B B1 B2 B3
    generalize wz.drew = wy at hB hB1 hB2 hB3 ⊢
    have B := hB
    have B1 := hB1
    have B2 := hB2
    have B3 := hB3
    clear hB hB1 hB2 hB3
    have a0 := B1.cell 0; have a1 := B1.cell 1; have a2 := B1.cell 2; have a3 := B1.cell 3; have a4 := B1.cell 4; have s0 := B2.cell 0; have s1 := B2.cell 1; have s2 := B2.cell 2; have s3 := B2.cell 3; have s4 := B2.cell 4; have s5 := B2.cell 5; have s6 := B2.cell 6; have s7 := B2.cell 7; have f0 := B3.cell 0; have f1 := B3.cell 1; have f2 := B3.cell 2; have f3 := B3.cell 3
    go_wp2_with (first | (go_at_call 83; refine (HMS.out _ _ _ _).mono ?_; rintro e w1 ⟨rfl, rfl⟩) | (go_at_call 76; go_loud (refine (HL1.out _).mono ?_; rintro e w2 ⟨rfl, x2⟩; replace B := B.then x2; replace B1 := B1.keep x2; replace B2 := B2.keep x2; replace B3 := B3.keep x2; clear x2; clear HL1; replace a0 := B1.cell 0; replace a1 := B1.cell 1; replace a2 := B1.cell 2; replace a3 := B1.cell 3; replace a4 := B1.cell 4; replace s0 := B2.cell 0; replace s1 := B2.cell 1; replace s2 := B2.cell 2; replace s3 := B2.cell 3; replace s4 := B2.cell 4; replace s5 := B2.cell 5; replace s6 := B2.cell 6; replace s7 := B2.cell 7; replace f0 := B3.cell 0; replace f1 := B3.cell 1; replace f2 := B3.cell 2; replace f3 := B3.cell 3)) | (go_at_call 76; go_loud (refine (HL2.out _).mono ?_; rintro e w2 ⟨rfl, x2⟩; replace B := B.then x2; replace B1 := B1.keep x2; replace B2 := B2.keep x2; replace B3 := B3.keep x2; clear x2; clear HL2; replace a0 := B1.cell 0; replace a1 := B1.cell 1; replace a2 := B1.cell 2; replace a3 := B1.cell 3; replace a4 := B1.cell 4; replace s0 := B2.cell 0; replace s1 := B2.cell 1; replace s2 := B2.cell 2; replace s3 := B2.cell 3; replace s4 := B2.cell 4; replace s5 := B2.cell 5; replace s6 := B2.cell 6; replace s7 := B2.cell 7; replace f0 := B3.cell 0; replace f1 := B3.cell 1; replace f2 := B3.cell 2; replace f3 := B3.cell 3)))
    go_returns
    exact ⟨ret_int (by rw [HE.out]), B⟩)
set_option maxHeartbeats 12800000 in
set_option maxRecDepth 100000 in
theorem leafSet_three (col ck rows nulls lk mk : Int) (cn ln mn : Nat) (cs ls mss : ByteArray) (f : Bloom.F) (w : World) (hcs : cs.size ≤ 140737488351232) (hls : ls.size ≤ 140737488355328) (hms : mss.size ≤ 140737488355328) (hsm : nulls < rows) :
    Calls Try.prog 82 #[cndV (3, col, ck, cn, cs), .agg #[.int .i64 rows, .int .i64 nulls, .int .i64 lk, .int .u64 (ln : Int), .string ls, .int .i64 mk, .int .u64 (mn : Int), .string mss], fourV f] w fun e w' => e = .returned (.int .i64 (Cnd.kn (3, col, ck, cn, cs) (rows, nulls, (lk, ln, ls), mk, mn, mss) f : Nat)) ∧ Ext w w' := by
  obtain ⟨R, hR⟩ : ∃ R, R = Cnd.kn (3, col, ck, cn, cs) (rows, nulls, (lk, ln, ls), mk, mn, mss) f := ⟨_, rfl⟩
  rw [← hR]
  unfold Cnd.kn at hR
  simp only at hR
  unfold Cnd.knB at hR
  have HMS := hid (fun a b c wx => maySet_any a b c wx)
  rw [if_neg (by decide), if_neg (by rw [decide_eq_true hsm]; decide), if_neg (by decide), if_neg (by decide)] at hR
  have HL1 := hid (fun wx => cellLess_any (ck, cn, cs) (lk, ln, ls) wx (Nat.le_trans hcs (by decide)) hls)
  have HL2 := hid (fun wx => cellLess_any (ck, cn, cs) (mk, mn, mss) wx (Nat.le_trans hcs (by decide)) hms)
  generalize Cel.less (ck, cn, cs) (lk, ln, ls) = l1 at *
  generalize Cel.less (ck, cn, cs) (mk, mn, mss) = l2 at *
  clear hcs hls hms
  cases l1 <;> cases l2
  all_goals simp only [Bool.or_true, Bool.not_true, Bool.not_false, Bool.or_false] at hR
  all_goals have HE := hid hR
  all_goals clear hR
  all_goals (
    go_enter Try.func82, Try.ntmps82
    go_upto_region 1 with fail
    refine wp_gen (fun w' => Ext w w' ∧ Blk w' w.heap.size 39 #[.int .i64 (3), .int .i64 col, .int .i64 ck, .int .u64 (cn : Int), .string cs] ∧ Blk w' (w.heap.size + 1) 45 #[.int .i64 rows, .int .i64 nulls, .int .i64 lk, .int .u64 (ln : Int), .string ls, .int .i64 mk, .int .u64 (mn : Int), .string mss] ∧ Blk w' (w.heap.size + 1 + 1) 48 (Bloom.arr f))
      ⟨(((ext_refl _).new _).new _).new _, ((Blk.new _ _ _).alloc _).alloc _, Blk.alloc (Blk.newAt (by simp)) _, Blk.newAt (by simp)⟩ ?_
    rintro wz ⟨B, B1, B2, B3⟩
    unfold Bloom.arr at B3
    have s0r := cell_regrown (B2.cell 0)
    have s1r := cell_regrown (B2.cell 1)
    refine wp_region_walk [(0, true), (1, true), (2, true), (3, true), (4, true), (5, true), (6, true), (7, true), (8, true), (9, true)] (by kernel_rfl) (by kernel_rfl) (fun _ _ _ _ _ h => h) (by kernel_rfl) (by rfl) ?_
    simp only [List.filterMap_cons, List.filterMap_nil, List.getElem?_toArray, List.getElem?_cons_zero, List.getElem?_cons_succ, Option.map_some]
    repeat (refine wpM_val (by rfl) ?_; intro K hK; go_big_quiet_op; go_big_quiet_on)
    refine wpM_nil ?_
    clear s0r s1r
    have hB := B.draw
    have hB1 := B1.keep (Ext.draw (ext_refl wz))
    have hB2 := B2.keep (Ext.draw (ext_refl wz))
    have hB3 := B3.keep (Ext.draw (ext_refl wz))
    clear B B1 B2 B3
    generalize wz.drew = wy at hB hB1 hB2 hB3 ⊢
    have B := hB
    have B1 := hB1
    have B2 := hB2
    have B3 := hB3
    clear hB hB1 hB2 hB3
    have a0 := B1.cell 0; have a1 := B1.cell 1; have a2 := B1.cell 2; have a3 := B1.cell 3; have a4 := B1.cell 4; have s0 := B2.cell 0; have s1 := B2.cell 1; have s2 := B2.cell 2; have s3 := B2.cell 3; have s4 := B2.cell 4; have s5 := B2.cell 5; have s6 := B2.cell 6; have s7 := B2.cell 7; have f0 := B3.cell 0; have f1 := B3.cell 1; have f2 := B3.cell 2; have f3 := B3.cell 3
    go_wp2_with (first | (go_at_call 83; refine (HMS.out _ _ _ _).mono ?_; rintro e w1 ⟨rfl, rfl⟩) | (go_at_call 76; go_loud (refine (HL1.out _).mono ?_; rintro e w2 ⟨rfl, x2⟩; replace B := B.then x2; replace B1 := B1.keep x2; replace B2 := B2.keep x2; replace B3 := B3.keep x2; clear x2; clear HL1; replace a0 := B1.cell 0; replace a1 := B1.cell 1; replace a2 := B1.cell 2; replace a3 := B1.cell 3; replace a4 := B1.cell 4; replace s0 := B2.cell 0; replace s1 := B2.cell 1; replace s2 := B2.cell 2; replace s3 := B2.cell 3; replace s4 := B2.cell 4; replace s5 := B2.cell 5; replace s6 := B2.cell 6; replace s7 := B2.cell 7; replace f0 := B3.cell 0; replace f1 := B3.cell 1; replace f2 := B3.cell 2; replace f3 := B3.cell 3)) | (go_at_call 76; go_loud (refine (HL2.out _).mono ?_; rintro e w2 ⟨rfl, x2⟩; replace B := B.then x2; replace B1 := B1.keep x2; replace B2 := B2.keep x2; replace B3 := B3.keep x2; clear x2; clear HL2; replace a0 := B1.cell 0; replace a1 := B1.cell 1; replace a2 := B1.cell 2; replace a3 := B1.cell 3; replace a4 := B1.cell 4; replace s0 := B2.cell 0; replace s1 := B2.cell 1; replace s2 := B2.cell 2; replace s3 := B2.cell 3; replace s4 := B2.cell 4; replace s5 := B2.cell 5; replace s6 := B2.cell 6; replace s7 := B2.cell 7; replace f0 := B3.cell 0; replace f1 := B3.cell 1; replace f2 := B3.cell 2; replace f3 := B3.cell 3)))
    go_returns
    exact ⟨ret_int (by rw [HE.out]), B⟩)
theorem leafSet_any (c : Cnd) (s : Sta) (f : Bloom.F) (w : World) (h1 : 1 ≤ c.1) (h4 : c.1 ≤ 4) (hf : f.ok) (hcn : c.2.2.2.1 < 18446744073709551616) (hcs : c.2.2.2.2.size ≤ 140737488351232) (hls : s.2.2.1.2.2.size ≤ 140737488355328) (hms : s.2.2.2.2.2.size ≤ 140737488355328) :
    Calls Try.prog 82 #[cndV c, staV s, fourV f] w fun e w' => e = .returned (.int .i64 (Cnd.kn c s f : Nat)) ∧ Ext w w' := by
  obtain ⟨op, col, ck, cn, cs⟩ := c
  obtain ⟨rows, nulls, ⟨lk, ln, ls⟩, mk, mn, mss⟩ := s
  simp only at h1 h4 hcn hcs hls hms
  by_cases e4 : op = 4
  · subst e4; exact leafSet_four col ck rows nulls lk mk cn ln mn cs ls mss f w
  by_cases hsm : nulls < rows
  · rcases (by omega : op = 1 ∨ op = 2 ∨ op = 3) with rfl | rfl | rfl
    · exact leafSet_one col ck rows nulls lk mk cn ln mn cs ls mss f w hf hcn hcs hls hms hsm
    · exact leafSet_two col ck rows nulls lk mk cn ln mn cs ls mss f w hcs hls hms hsm
    · exact leafSet_three col ck rows nulls lk mk cn ln mn cs ls mss f w hcs hls hms hsm
  · exact leafSet_none col ck rows nulls lk mk cn ln mn cs ls mss f w op e4 hsm
end Go.Proofs.Ytpheegfanljeeaa
end
section
namespace Go.Proofs.Ytpheegfanljeeaa
open Go.RowKit Hy
theorem rowSet : RowT Try.prog 123 106 1 8 := RowT.mk' (z := .int .i64 0) Try.underlying123 (by kernel_rfl) rfl (by decide)
set_option maxHeartbeats 6400000 in
set_option maxRecDepth 100000 in
theorem walkS_any (ks : List Int) (p : List Cnd) (f : Cnd → Nat) (P : Option Addr) (n pcap : Nat) (g1 g2 : Nat) (w : World) (hr : Cnd.chk ks p = 0) (hn : p.length = n) (hp : Rd w P (cns p)) (hf : ∀ c ∈ p, f c ≤ 7)
    (HF : ∀ c ∈ p, Cnd.sz c.1 = 0 → ∀ wx, Ext w wx → Calls Try.prog 79 #[cndV c, .pointer (some ⟨g1, 0, none⟩), .pointer (some ⟨g2, 0, none⟩)] wx fun e w' => e = .returned (.int .i64 (f c : Nat)) ∧ Ext wx w') :
    Calls Try.prog 78 #[.slice P n pcap, .func (.func 79) #[] #[.pointer (some ⟨g1, 0, none⟩), .pointer (some ⟨g2, 0, none⟩)], .func (.func 81) #[] #[]] w fun e w' => e = .returned (.int .i64 (Cnd.val f Cnd.alls p : Nat)) ∧ Ext w w' := by
  have HN := hid hn
  have HP := hid hp
  have HLF := hid HF
  have h16 : n ≤ 16 := by
    obtain ⟨_, _, _, h⟩ := Cnd.right_tree hr
    omega
  have HSZ := hid (fun k hk => Cnd.chk_sz hr f Cnd.alls k hk)
  have HST := hid (fun k hk => Cnd.take_stp f Cnd.alls p [] k hk)
  have HLE := hid (fun k => Cnd.stk_le f Cnd.alls p k)
  have HBD := hid (fun k => Cnd.stk_bd (B := 7) (j := Cnd.alls) (p := p) hf (fun op x y hx hy => Nat.lt_succ_iff.1 (Cnd.alls_lt op x y)) k)
  have HALL := hid (Cnd.stk_all hr f Cnd.alls)
  have hI : (n : Int) ≤ 16 := by omega
  clear hn hp HF hr hf
  go_enter Try.func78, Try.ntmps78
  go_wp2
  go_loopw [7, 9, 13] (fun x _ c wr => ∃ k m : Nat, k ≤ n ∧ c = .int .i64 k ∧ Hid (m = ((p.take k).foldl (Cnd.stp f Cnd.alls) []).length) ∧ Hid (wr.ownsRow w.heap.size 106 1 x m (n64s ((p.take k).foldl (Cnd.stp f Cnd.alls) []))) ∧ Ext w wr) (fun _ _ c _ => n - (intOf c).toNat)
  case atStart => exact ⟨0, 0, Nat.zero_le _, rfl, rfl, hid (World.ownsRow_nil _ _ _ _), ext_refl _⟩
  case round =>
    obtain ⟨k, m, hk, rfl, HM, HO, X⟩ := hrel
    have hmk : m ≤ k := by rw [HM.out]; exact HLE.out k
    by_cases hlt : k < n
    · have hka : k < p.length := by rw [HN.out]; exact hlt
      obtain ⟨b1, o1, e1, l1, c1⟩ := HP.out.cnds k hka
      subst e1
      have d0 := (X.cell (p := ⟨b1, o1 + k * 5, none⟩) l1).trans (c1 k hka).1
      have d1 := (X.cell (p := ⟨b1, o1 + k * 5 + 1, none⟩) l1).trans (c1 k hka).2.1
      have d2 := (X.cell (p := ⟨b1, o1 + k * 5 + 2, none⟩) l1).trans (c1 k hka).2.2.1
      have d3 := (X.cell (p := ⟨b1, o1 + k * 5 + 3, none⟩) l1).trans (c1 k hka).2.2.2.1
      have d4 := (X.cell (p := ⟨b1, o1 + k * 5 + 4, none⟩) l1).trans (c1 k hka).2.2.2.2
      have HCF := hid (HLF.out p[k] (List.getElem_mem hka))
      have HSTK := hid (HST.out k hka)
      have hsm := HSZ.out k hka
      rw [← HM.out] at hsm
      have HBK := hid (HBD.out k)
      clear c1
      generalize p[k] = c at *
      clear hka
      generalize (p.take k).foldl (Cnd.stp f Cnd.alls) [] = S at *
      obtain ⟨op, col, kk, nn, ss⟩ := c
      simp only at d0 d1 d2 d3 d4 hsm
      have HPT := hid (parts_any op)
      have hmI : (m : Int) ≤ (k : Int) := by omega
      have hkI : (k : Int) < (n : Int) := by omega
      have h2 := Cnd.sz_le op
      have XR := hid (X.new (.cells #[.int .i64 op, .int .i64 col, .int .i64 kk, .int .u64 (nn : Int), .string ss] 39))
      obtain ⟨Ab, cb, hAb, _⟩ := Rd.owned HO.out
      subst hAb
      rcases (by omega : Cnd.sz op = 0 ∨ Cnd.sz op = 1 ∨ Cnd.sz op = 2) with hs | hs | hs
      · have HNX := hid (show (p.take (k + 1)).foldl (Cnd.stp f Cnd.alls) [] = S ++ [f (op, col, kk, nn, ss)] by rw [HSTK.out]; unfold Cnd.stp; rw [if_pos (show Cnd.sz (op, col, kk, nn, ss).1 = 0 from hs)])
        replace HCF := hid (HCF.out hs)
        rw [hs] at HPT
        obtain ⟨z, hz⟩ : ∃ z, z = f (op, col, kk, nn, ss) := ⟨_, rfl⟩
        rw [← hz] at HCF HNX
        clear hs h2 hsm HSTK hz
        go_wp2_with (first | (go_at_call 47; refine (HPT.out _).mono ?_; rintro e w1 ⟨rfl, rfl⟩) | (go_at_call 79; go_loud (refine (HCF.out _ XR.out).mono ?_; rintro e w2 ⟨rfl, x2⟩; have X2 := hid (((ext_refl wr).new _).then x2); clear x2)) | (at_builtin; refine wpList_app rfl (.tmp 44) (.tmp 48) rowSet rfl _ m _ rfl (own_ext HO.out (X2.out.new _)) _ 1 (n64s [z]) rfl (Src.rd Try.underlying123 _ 1 1 _ rfl (rd_lit rfl rfl) (n64s_one _) (fun h => by cases h)) (by unfold maxLen; omega) (by omega) (by have := X.size; have := X2.out.size; simp; omega) ?_; intro v3 w3 hown3 hg3 ha3 hb3; have O3 := hid hown3; have X3 := hid ((X.then (X2.out.new _)).trans hb3); clear hown3 hg3 ha3 hb3))
        go_roundw
        case rel => exact ⟨k + 1, m + 1, by omega, by go_num, hid (by rw [HNX.out, HM.out]; simp), hid (by rw [HNX.out, n64s_app]; exact O3.out), X3.out⟩
        case measure => simp [intOf]; omega
      all_goals (
        obtain ⟨g3, c3, cur3, hA3, hg3, hc3, hx3, hB3, hcell⟩ := own_parts HO.out (by omega)
        injection hA3 with hA3 _ hc4
        subst hA3
        subst hc4
        have HO1 := hid (own_ext HO.out ((ext_refl wr).new (.cells #[.int .i64 op, .int .i64 col, .int .i64 kk, .int .u64 (nn : Int), .string ss] 39)))
        have HSL := hid HM.out.symm)
      · have HNX := hid (show (p.take (k + 1)).foldl (Cnd.stp f Cnd.alls) [] = S.set (m - 1) (Cnd.alls op (S.getD (m - 1) 0) (S.getD (m - 1) 0)) by
          rw [HSTK.out, set_last S (m - 1) _ (by rw [HSL.out]; omega)]; unfold Cnd.stp; rw [if_neg (by simp only; omega), if_pos (show Cnd.sz (op, col, kk, nn, ss).1 = 1 from hs), HSL.out])
        rw [hs] at HPT
        obtain ⟨r, hr⟩ : ∃ r, m = r + 1 := ⟨m - 1, by omega⟩
        have hrm : m - 1 = r := by omega
        rw [hrm] at HNX
        have hr1 : (m : Int) - 1 = (r : Int) := by omega
        have hw1 : IntKind.i64.wrap ((m : Int) - 1) = (r : Int) := by rw [IntKind.wrap_i64]; omega
        have hw2 : IntKind.i64.wrap (r : Int) = (r : Int) := by rw [IntKind.wrap_i64]; omega
        have hrI : (r : Int) < (m : Int) := by omega
        have e1 := hcell r _ (by omega) (n64s_get S r (by rw [HSL.out]; omega))
        have hx := Cnd.getD_le HBK.out r
        generalize S.getD r 0 = x at *
        have HJ := hid (fun wx => all_any op x x (by omega) (by omega) wx)
        generalize Cnd.alls op x x = z at *
        have HRM := hid (show r < m by omega)
        have HMM := hid hr
        clear hs h2 hsm HSTK hcell hr hrm hx
        go_wp2_with (first | (go_at_call 47; refine (HPT.out _).mono ?_; rintro e w1 ⟨rfl, rfl⟩))
        refine wp_gen (fun w' => Ext wr w' ∧ w'.ownsRow w.heap.size 106 1 (.slice (some ⟨g3, 0, none⟩) m cb) m (n64s S) ∧ Blk w' wr.heap.size 39 #[.int .i64 op, .int .i64 col, .int .i64 kk, .int .u64 (nn : Int), .string ss]) ⟨(ext_refl wr).new _, HO1.out, Blk.new _ _ _⟩ ?_
        rintro wz ⟨BZ, OZ, B1⟩
        have a0 := cell_regrown (B1.cell 0)
        have e1r := cell_regrown (ext_cell BZ e1)
        have HBZ := hid BZ
        have HOZ := hid OZ
        clear BZ OZ B1
        refine wp_region_late [18] [] [(0, true), (1, true), (2, true), (3, true), (4, true), (5, true), (6, true), (7, true), (8, true), (9, true), (10, true), (11, true), (12, true), (13, true), (14, true), (15, true), (16, false), (17, true), (18, false)] (by kernel_rfl) (by kernel_rfl) (fun _ _ _ _ _ h => h) (by kernel_rfl) (by rfl) ?_
        simp only [List.filterMap_cons, List.filterMap_nil, List.getElem?_toArray, List.getElem?_cons_zero, List.getElem?_cons_succ, Option.map_some, List.contains_cons, List.contains_nil, Nat.reduceBEq, Bool.or_false]
        repeat ((first | refine wpL_val (by rfl) ?_ | refine wpL_pure (by rfl) ?_); intro K hK; go_big_quiet_op; go_big_quiet_on)
        refine wpL_do (by rfl) ?_
        intro K hK
        go_simp
        refine Calls.mono (HJ.out _) ?_
        rintro e _ ⟨rfl, rfl⟩
        have Y0 : Ext wz wz.drew := Ext.draw (ext_refl wz)
        refine hK _ _ Y0 ?_
        clear K hK
        repeat ((first | refine wpL_val (by rfl) ?_ | refine wpL_pure (by rfl) ?_); intro K hK; go_big_quiet_op; go_big_quiet_on)
        have HOD := hid (own_ext HOZ.out Y0)
        have q1 := ext_cell (HBZ.out.then Y0) e1
        have q2 := HOD.out.frozenAt r
        refine wpL_late (by rfl) ?_
        intro K hK
        go_simp
        refine hK _ _ ?_
        clear K hK
        refine wpL_nil ?_
        go_wp2
        go_roundw
        case rel => exact ⟨k + 1, m, by omega, by go_num, hid (by rw [HNX.out, List.length_set]; exact HSL.out.symm), hid (by rw [HNX.out, n64s_set]; exact own_set HOD.out rfl r _), ((X.then HBZ.out).then Y0).put hg3 _⟩
        case measure => simp [intOf]; omega
      · have HNX := hid (show (p.take (k + 1)).foldl (Cnd.stp f Cnd.alls) [] = S.take (m - 2) ++ [Cnd.alls op (S.getD (m - 2) 0) (S.getD (m - 1) 0)] by
          rw [HSTK.out]; unfold Cnd.stp; rw [if_neg (by simp only; omega), if_neg (by simp only; omega), HSL.out])
        rw [hs] at HPT
        obtain ⟨q, hq⟩ : ∃ q, m = q + 2 := ⟨m - 2, by omega⟩
        obtain ⟨r, hr⟩ : ∃ r, r = q + 1 := ⟨_, rfl⟩
        have hqm : m - 2 = q := by omega
        have hrm : m - 1 = r := by omega
        rw [hqm, hrm] at HNX
        have hq1 : (m : Int) - 2 = (q : Int) := by omega
        have hr1 : (m : Int) - 1 = (r : Int) := by omega
        have hw1 : IntKind.i64.wrap ((m : Int) - 1) = (r : Int) := by rw [IntKind.wrap_i64]; omega
        have hw2 : IntKind.i64.wrap (r : Int) = (r : Int) := by rw [IntKind.wrap_i64]; omega
        have hw3 : IntKind.i64.wrap ((m : Int) - 2) = (q : Int) := by rw [IntKind.wrap_i64]; omega
        have hw4 : IntKind.i64.wrap (q : Int) = (q : Int) := by rw [IntKind.wrap_i64]; omega
        have hrI : (r : Int) < (m : Int) := by omega
        have hqI : (q : Int) < (m : Int) := by omega
        have hqc : (q : Int) ≤ (cb : Int) := by omega
        have e1 := hcell r _ (by omega) (n64s_get S r (by rw [HSL.out]; omega))
        have e2 := hcell q _ (by omega) (n64s_get S q (by rw [HSL.out]; omega))
        have hx := Cnd.getD_le HBK.out r
        have hy := Cnd.getD_le HBK.out q
        generalize S.getD r 0 = x at *
        generalize S.getD q 0 = y at *
        have HJ := hid (fun wx => all_any op y x (by omega) (by omega) wx)
        generalize Cnd.alls op y x = z at *
        have HQM := hid (show q ≤ m ∧ 0 < m ∧ m ≤ 16 by omega)
        have HQL := hid (show (S.take q).length = q by rw [List.length_take, HSL.out]; omega)
        have HHS := hid X.size
        clear hs h2 hsm HSTK hcell hr hrm hx hy hq hqm
        go_wp2_with (first | (go_at_call 47; refine (HPT.out _).mono ?_; rintro e w1 ⟨rfl, rfl⟩))
        refine wp_gen (fun w' => Ext wr w' ∧ w'.ownsRow w.heap.size 106 1 (.slice (some ⟨g3, 0, none⟩) m cb) m (n64s S) ∧ Blk w' wr.heap.size 39 #[.int .i64 op, .int .i64 col, .int .i64 kk, .int .u64 (nn : Int), .string ss]) ⟨(ext_refl wr).new _, HO1.out, Blk.new _ _ _⟩ ?_
        rintro wz ⟨BZ, OZ, B1⟩
        have a0 := cell_regrown (B1.cell 0)
        have e1r := cell_regrown (ext_cell BZ e1)
        have e2r := cell_regrown (ext_cell BZ e2)
        have HBZ := hid BZ
        have HOZ := hid (own_take OZ HQM.out.1 HQM.out.2.1)
        clear BZ OZ B1
        refine wp_region_late [19] [20] [(0, true), (1, true), (2, true), (3, true), (4, true), (5, true), (6, true), (7, true), (8, true), (9, true), (10, true), (11, true), (12, true), (13, true), (14, true), (15, true), (16, true), (17, false), (18, false), (19, false), (20, true)] (by kernel_rfl) (by kernel_rfl) (fun _ _ _ _ _ h => h) (by kernel_rfl) (by rfl) ?_
        simp only [List.filterMap_cons, List.filterMap_nil, List.getElem?_toArray, List.getElem?_cons_zero, List.getElem?_cons_succ, Option.map_some, List.contains_cons, List.contains_nil, Nat.reduceBEq, Bool.or_false]
        repeat ((first | refine wpL_val (by rfl) ?_ | refine wpL_pure (by rfl) ?_); intro K hK; go_big_quiet_op; go_big_quiet_on)
        refine wpL_do (by rfl) ?_
        intro K hK
        go_simp
        refine Calls.mono (HJ.out _) ?_
        rintro e _ ⟨rfl, rfl⟩
        have Y0 : Ext wz wz.drew := Ext.draw (ext_refl wz)
        refine hK _ _ Y0 ?_
        clear K hK
        refine wpL_do (by rfl) ?_
        intro K hK
        go_simp
        have Y1 : Ext wz (wz.drew.alloc (.cells #[.int .i64 (z : Int)] 106)) := Ext.new Y0 _
        refine hK _ _ Y1 ?_
        clear K hK
        refine wpL_late (by rfl) ?_
        intro K hK
        refine wp_app (.tmp 25) (.tmp 40) rowSet rfl _ q (n64s (S.take q)) rfl (by rw [n64s_take]; exact own_ext HOZ.out Y1) _ 1 (n64s [z]) rfl (Src.rd Try.underlying123 _ 1 1 _ rfl (rd_lit rfl rfl) (n64s_one _) (fun h => by cases h)) (by have := HQM.out; unfold maxLen; omega) (by have := HQM.out; omega) (by have := HHS.out; have := HBZ.out.size; simp; omega) ?_
        intro v3 w3 hown3 hgr3 hat3 hbel3
        refine hK _ _ ?_
        clear K hK
        obtain ⟨C3, k3, rfl, _⟩ := Rd.owned hown3
        have HO3 := hid hown3
        have HX3 : Hid (Ext w w3) := hid (((X.then HBZ.out).then Y1).trans hbel3)
        clear hown3 hgr3 hat3 hbel3 d0 d1 d2 d3 d4 e1 e2 e1r e2r a0
        simp only [Act.put, List.setIfInBounds_toArray, List.set_cons_succ, List.set_cons_zero]
        repeat (refine wpL_pure (by rfl) ?_; intro K hK; go_big_quiet_op; go_big_quiet_on)
        refine wpL_nil ?_
        go_wp2
        go_roundw
        case rel => exact ⟨k + 1, q + 1, by omega, by go_num, hid (by rw [HNX.out, List.length_append, HQL.out]; rfl), hid (by rw [HNX.out, n64s_app]; exact HO3.out), HX3.out⟩
        case measure => simp [intOf]; omega
    · obtain rfl : k = n := by omega
      have hti : p.take k = p := List.take_of_length_le (by rw [HN.out]; exact Nat.le_refl _)
      rw [hti, HALL.out] at HM HO
      have hm1 : m = 1 := HM.out
      subst hm1
      obtain ⟨g3, c3, cur3, rfl, hg3, hc3, hx3, hB3, hcell⟩ := own_parts HO.out (by omega)
      have e1 := hcell 0 _ (by omega) (show _ = some (.int .i64 ((Cnd.val f Cnd.alls p : Nat) : Int)) from rfl)
      obtain ⟨V, hV⟩ : ∃ V, V = Cnd.val f Cnd.alls p := ⟨_, rfl⟩
      rw [← hV] at e1
      have HV := hid hV
      clear hcell hti hV
      go_wp2
      go_returns
      exact ⟨by rw [← HV.out]; rfl, X⟩
end Go.Proofs.Ytpheegfanljeeaa
end
section
namespace Hy
open Go
/-- what is known of a column, as cells -/
def sta8 (s : Sta) : List Value := [.int .i64 s.1, .int .i64 s.2.1, .int .i64 s.2.2.1.1, .int .u64 (s.2.2.1.2.1 : Nat), .string s.2.2.1.2.2, .int .i64 s.2.2.2.1, .int .u64 (s.2.2.2.2.1 : Nat), .string s.2.2.2.2.2]
def sts (l : List Sta) : List Value := l.flatMap sta8
theorem sts_len (l : List Sta) : (sts l).length = l.length * 8 := flat_length (f := sta8) (m := 8) (fun _ => rfl) l
theorem sts_one (l : List Sta) : ∀ u ∈ sts l, u.oneCell' = true := fun u hu => by
  obtain ⟨c, _, h⟩ := List.mem_flatMap.1 hu
  simp only [sta8, List.mem_cons, List.not_mem_nil, or_false] at h
  rcases h with rfl | rfl | rfl | rfl | rfl | rfl | rfl | rfl <;> rfl
theorem sts_app (l m : List Sta) : sts (l ++ m) = sts l ++ sts m := by simp [sts]
theorem Rd.stas {w : World} {A : Option Addr} {l : List Sta} (h : Rd w A (sts l)) (k : Nat) (hk : k < l.length) :
    ∃ b o, A = some ⟨b, o, none⟩ ∧ b < w.heap.size ∧ ∀ j (hj : j < l.length), w.cell? ⟨b, o + j * 8, none⟩ = some (.int .i64 l[j].1) ∧ w.cell? ⟨b, o + j * 8 + 1, none⟩ = some (.int .i64 l[j].2.1) ∧ w.cell? ⟨b, o + j * 8 + 2, none⟩ = some (.int .i64 l[j].2.2.1.1) ∧ w.cell? ⟨b, o + j * 8 + 3, none⟩ = some (.int .u64 (l[j].2.2.1.2.1 : Nat)) ∧ w.cell? ⟨b, o + j * 8 + 4, none⟩ = some (.string l[j].2.2.1.2.2) ∧
      w.cell? ⟨b, o + j * 8 + 5, none⟩ = some (.int .i64 l[j].2.2.2.1) ∧ w.cell? ⟨b, o + j * 8 + 6, none⟩ = some (.int .u64 (l[j].2.2.2.2.1 : Nat)) ∧ w.cell? ⟨b, o + j * 8 + 7, none⟩ = some (.string l[j].2.2.2.2.2) := by
  obtain ⟨b, o, e, hb, hc⟩ := h (by rw [sts_len]; omega)
  have H : ∀ j (hj : j < l.length) i (hi : i < 8) u, (sta8 l[j])[i]? = some u → w.cell? ⟨b, o + (j * 8 + i), none⟩ = some u := fun j hj i hi u hu => hc _ _ ((flat_get (f := sta8) (m := 8) (fun _ => rfl) l j hj i hi).trans hu)
  refine ⟨b, o, e, hb, fun j hj => ⟨?_, ?_, ?_, ?_, ?_, ?_, ?_, ?_⟩⟩
  · exact H j hj 0 (by decide) _ rfl
  all_goals rw [Nat.add_assoc]
  · exact H j hj 1 (by decide) _ rfl
  · exact H j hj 2 (by decide) _ rfl
  · exact H j hj 3 (by decide) _ rfl
  · exact H j hj 4 (by decide) _ rfl
  · exact H j hj 5 (by decide) _ rfl
  · exact H j hj 6 (by decide) _ rfl
  · exact H j hj 7 (by decide) _ rfl
/-- a filter, as cells -/
def four4 (f : Bloom.F) : List Value := [.int .u64 (f 0 : Nat), .int .u64 (f 1 : Nat), .int .u64 (f 2 : Nat), .int .u64 (f 3 : Nat)]
def frs (l : List Bloom.F) : List Value := l.flatMap four4
theorem frs_len (l : List Bloom.F) : (frs l).length = l.length * 4 := flat_length (f := four4) (m := 4) (fun _ => rfl) l
theorem frs_one (l : List Bloom.F) : ∀ u ∈ frs l, u.oneCell' = true := fun u hu => by
  obtain ⟨c, _, h⟩ := List.mem_flatMap.1 hu
  simp only [four4, List.mem_cons, List.not_mem_nil, or_false] at h
  rcases h with rfl | rfl | rfl | rfl <;> rfl
theorem frs_app (l m : List Bloom.F) : frs (l ++ m) = frs l ++ frs m := by simp [frs]
theorem Rd.fours {w : World} {A : Option Addr} {l : List Bloom.F} (h : Rd w A (frs l)) (k : Nat) (hk : k < l.length) :
    ∃ b o, A = some ⟨b, o, none⟩ ∧ b < w.heap.size ∧ ∀ j (hj : j < l.length), w.cell? ⟨b, o + j * 4, none⟩ = some (.int .u64 (l[j] 0 : Nat)) ∧ w.cell? ⟨b, o + j * 4 + 1, none⟩ = some (.int .u64 (l[j] 1 : Nat)) ∧ w.cell? ⟨b, o + j * 4 + 2, none⟩ = some (.int .u64 (l[j] 2 : Nat)) ∧ w.cell? ⟨b, o + j * 4 + 3, none⟩ = some (.int .u64 (l[j] 3 : Nat)) := by
  obtain ⟨b, o, e, hb, hc⟩ := h (by rw [frs_len]; omega)
  have H : ∀ j (hj : j < l.length) i (hi : i < 4) u, (four4 l[j])[i]? = some u → w.cell? ⟨b, o + (j * 4 + i), none⟩ = some u := fun j hj i hi u hu => hc _ _ ((flat_get (f := four4) (m := 4) (fun _ => rfl) l j hj i hi).trans hu)
  refine ⟨b, o, e, hb, fun j hj => ⟨?_, ?_, ?_, ?_⟩⟩
  · exact H j hj 0 (by decide) _ rfl
  all_goals rw [Nat.add_assoc]
  · exact H j hj 1 (by decide) _ rfl
  · exact H j hj 2 (by decide) _ rfl
  · exact H j hj 3 (by decide) _ rfl
end Hy
namespace Hy.Cnd
/-- what a leaf may be, of what is known of columns -/
def setf (S : List Sta) (Fs : List Bloom.F) (c : Cnd) : Nat := kn c (S.getD c.2.1.toNat Cel.SO) (Fs.getD c.2.1.toNat Bloom.none)
theorem setf_le (S : List Sta) (Fs : List Bloom.F) (c : Cnd) : setf S Fs c ≤ 7 := Nat.lt_succ_iff.1 (kn_lt _ _ _)
theorem setf_at {S : List Sta} {Fs : List Bloom.F} {op : Int} {j : Nat} {c : Cel} (h1 : j < S.length) (h2 : j < Fs.length) : setf S Fs (op, (j : Int), c) = kn (op, (j : Int), c) S[j] Fs[j] := by
  unfold setf; simp only [Int.toNat_natCast]
  rw [List.getD_eq_getElem?_getD, List.getElem?_eq_getElem h1, List.getD_eq_getElem?_getD, List.getElem?_eq_getElem h2]; rfl
end Hy.Cnd
namespace Go.Proofs.Ytpheegfanljeeaa
open Go.RowKit Hy
set_option maxHeartbeats 800000 in
set_option maxRecDepth 100000 in
theorem pruneLeaf_any (c : Cnd) (S : List Sta) (Fs : List Bloom.F) (A B : Option Addr) (n cap m cap2 g1 g2 : Nat) (w : World) (hn : S.length = n) (hr : Rd w A (sts S)) (hg1 : w.cell? ⟨g1, 0, none⟩ = some (.slice A n cap))
    (hm : Fs.length = m) (hrf : Rd w B (frs Fs)) (hg2 : w.cell? ⟨g2, 0, none⟩ = some (.slice B m cap2)) (hok : ∀ f ∈ Fs, f.ok) (h0 : 0 ≤ c.2.1) (h1 : c.2.1 < (n : Int)) (h2 : c.2.1 < (m : Int)) (hcn : c.2.2.2.1 < 18446744073709551616) (hcs : c.2.2.2.2.size ≤ 16) :
    Calls Try.prog 79 #[cndV c, .pointer (some ⟨g1, 0, none⟩), .pointer (some ⟨g2, 0, none⟩)] w fun e w' => e = .returned (.int .i64 (Cnd.setf S Fs c : Nat)) ∧ Ext w w' := by
  obtain ⟨op, col, k, nn, s⟩ := c
  simp only at h0 h1 h2 hcn hcs
  obtain ⟨j, rfl⟩ : ∃ j : Nat, col = (j : Int) := ⟨col.toNat, by omega⟩
  have hj : j < S.length := by omega
  have hj2 : j < Fs.length := by omega
  obtain ⟨b, o, rfl, lb, cb⟩ := hr.stas j hj
  obtain ⟨b', o', rfl, lb', cb'⟩ := hrf.fours j hj2
  obtain ⟨r0, r1, r2, r3, r4, r5, r6, r7⟩ := cb j hj
  obtain ⟨q0, q1, q2, q3⟩ := cb' j hj2
  rw [Cnd.setf_at hj hj2]
  have hfo := hok _ (List.getElem_mem hj2)
  clear cb cb' hr hrf hn hm hok
  generalize S[j] = x at *
  generalize Fs[j] = f at *
  clear hj hj2
  have G : Hid (∀ wx, Calls Try.prog 80 #[cndV (op, (j : Int), k, nn, s), staV x, .agg #[.int .u64 (f 0 : Nat), .int .u64 (f 1 : Nat), .int .u64 (f 2 : Nat), .int .u64 (f 3 : Nat)]] wx fun e w' => e = .returned (.int .i64 (Cnd.kn (op, (j : Int), k, nn, s) x f : Nat)) ∧ Ext wx w') := hid (fun wx => known_any (op, (j : Int), k, nn, s) x f wx hfo hcn (Nat.le_trans hcs (by decide)))
  generalize Cnd.kn (op, (j : Int), k, nn, s) x f = v at *
  obtain ⟨rows, nulls, ⟨lk, ln, ls⟩, mk, mn, mss⟩ := x
  simp only at r0 r1 r2 r3 r4 r5 r6 r7
  have lg1 := block_lt_of_cell hg1
  have lg2 := block_lt_of_cell hg2
  simp only at lg1 lg2
  clear hfo hcn hcs
  generalize f 0 = f0 at *
  generalize f 1 = f1 at *
  generalize f 2 = f2 at *
  generalize f 3 = f3 at *
  go_enter Try.func79, Try.ntmps79
  go_wp2
  refine wp_gen (fun w' => Ext w w' ∧ Blk w' w.heap.size 39 #[.int .i64 op, .int .i64 j, .int .i64 k, .int .u64 (nn : Int), .string s]) ⟨(ext_refl _).new _, Blk.new _ _ _⟩ ?_
  rintro wz ⟨B, B1⟩
  have a0 := cell_regrown (B1.cell 0)
  have a1 := cell_regrown (B1.cell 1)
  have a2 := cell_regrown (B1.cell 2)
  have a3 := cell_regrown (B1.cell 3)
  have a4 := cell_regrown (B1.cell 4)
  have hgr1 := cell_regrown (ext_cell B hg1)
  have hgr2 := cell_regrown (ext_cell B hg2)
  have r0r := cell_regrown (ext_cell B r0)
  have r1r := cell_regrown (ext_cell B r1)
  have r2r := cell_regrown (ext_cell B r2)
  have r3r := cell_regrown (ext_cell B r3)
  have r4r := cell_regrown (ext_cell B r4)
  have r5r := cell_regrown (ext_cell B r5)
  have r6r := cell_regrown (ext_cell B r6)
  have r7r := cell_regrown (ext_cell B r7)
  have q0r := cell_regrown (ext_cell B q0)
  have q1r := cell_regrown (ext_cell B q1)
  have q2r := cell_regrown (ext_cell B q2)
  have q3r := cell_regrown (ext_cell B q3)
  clear hg1 hg2 r0 r1 r2 r3 r4 r5 r6 r7 q0 q1 q2 q3
  refine wp_region_quiet_below (by kernel_rfl) (by kernel_rfl) ?_
  repeat (go_big_quiet_step ((go_at_call 80; exact Gives.quiet G.out _ _ _)))
  refine wpQuiet_nil ?_
  intro w9 hw9
  obtain ⟨p, rfl⟩ := hw9
  go_wp2
  go_returns
  exact ⟨rfl, B.then (ext_regrown wz p)⟩
theorem rawPrune_any (ks : List Int) (p : List Cnd) (S : List Sta) (Fs : List Bloom.F) (P A B : Option Addr) (n pcap m cap cap2 : Nat) (w : World) (hr : Cnd.chk ks p = 0) (hn : p.length = n) (hp : Rd w P (cns p)) (hpn : ∀ c ∈ p, c.2.2.2.1 < 18446744073709551616) (hm : S.length = m) (hm2 : Fs.length = m) (hk : ks.length = m) (hrs : Rd w A (sts S)) (hrf : Rd w B (frs Fs)) (hok : ∀ f ∈ Fs, f.ok) :
    Calls Try.prog 52 #[.slice P n pcap, .slice A m cap, .slice B m cap2] w fun e w' => e = .returned (.int .i64 (Cnd.val (Cnd.setf S Fs) Cnd.alls p : Nat)) ∧ Ext w w' := by
  have hal := Cnd.chk_al hr
  have HW := hid (fun (g1 g2 : Nat) wx (hx : Ext w wx) (hg1 : wx.cell? ⟨g1, 0, none⟩ = some (.slice A m cap)) (hg2 : wx.cell? ⟨g2, 0, none⟩ = some (.slice B m cap2)) => walkS_any ks p (Cnd.setf S Fs) P n pcap g1 g2 wx hr hn (hp.keep hx) (fun c _ => Cnd.setf_le S Fs c) (fun c hc hs wy hy => by
    obtain ⟨h0, h1, _, _, h4, _⟩ := Cnd.leaf_ok (hal c hc) hs
    exact pruneLeaf_any c S Fs A B m cap m cap2 g1 g2 wy hm (hrs.keep (hx.then hy)) (ext_cell hy hg1) hm2 (hrf.keep (hx.then hy)) (ext_cell hy hg2) hok h0 (by omega) (by omega) (hpn c hc) h4))
  generalize Cnd.val (Cnd.setf S Fs) Cnd.alls p = v at *
  clear hr hn hp hm hk hrs hrf hal hpn hm2 hok
  go_enter Try.func52, Try.ntmps52
  go_wp2_with (go_at_call 78; go_loud (refine (HW.out _ _ _ (((ext_refl _).new _).new _) (((Blk.new _ _ _).alloc _).cell 0) ((Blk.newAt (by simp)).cell 0)).mono ?_; rintro e w2 ⟨rfl, x2⟩; have X2 := hid ((((ext_refl w).new _).new _).then x2); clear x2))
  go_returns
  exact ⟨rfl, X2.out⟩
end Go.Proofs.Ytpheegfanljeeaa
end
