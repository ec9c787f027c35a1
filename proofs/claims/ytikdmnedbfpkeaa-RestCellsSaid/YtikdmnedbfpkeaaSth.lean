/- Stats: Merge: walk. -/
import Derived.Test.YtikdmnedbfpkeaaSte
import Derived.Test.YtikdmnedbfpkeaaStg
namespace Hy.Cel
@[irreducible] def mg (kind : Int) (a b : Sta) : Sta × Nat :=
  if sck kind a ≠ 0 then (SO, sck kind a) else if sck kind b ≠ 0 then (SO, sck kind b) else if 128 < a.1 + b.1 then (SO, 2) else (bothS a b, 0)
theorem sck_rng {kind : Int} {s : Sta} (h : sck kind s = 0) : (0 ≤ s.1 ∧ s.1 ≤ 128) ∧ 0 ≤ s.2.1 ∧ s.2.1 ≤ s.1 := by
  unfold sck at h
  split at h
  · cases h
  · split at h
    · cases h
    · rename_i h1
      omega
end Hy.Cel
namespace Go.Proofs.Ytikdmnedbfpkeaa
open Go.RowKit Hy
set_option maxHeartbeats 4000000 in
theorem merge_any (kind : Int) (a b : Sta) (w : World) :
    Calls Try.prog 19 #[.int .i64 kind, staV a, staV b] w fun e w' => e = .returned (.tuple #[staV (Cel.mg kind a b).1, .int .i64 ((Cel.mg kind a b).2 : Nat)]) ∧ Ext w w' := by
  have HC1 := hid (statsCheck_any kind a)
  have HC2 := hid (statsCheck_any kind b)
  have hr1 := fun h => Cel.sck_rng (kind := kind) (s := a) h
  have hr2 := fun h => Cel.sck_rng (kind := kind) (s := b) h
  have hk1 := Cel.sck_le kind a
  have hk2 := Cel.sck_le kind b
  have HBO := hid (fun (h1 : Cel.sck kind a = 0) (h2 : Cel.sck kind b = 0) => fun w => both_any a b w (by have := (hr1 h1).1; omega) (by have := (hr2 h2).1; omega) (by have := hr1 h1; omega) (by have := hr2 h2; omega))
  obtain ⟨R, hR⟩ : ∃ R, R = Cel.mg kind a b := ⟨_, rfl⟩
  rw [← hR]
  have HR := hid (show R = if Cel.sck kind a ≠ 0 then (Cel.SO, Cel.sck kind a) else if Cel.sck kind b ≠ 0 then (Cel.SO, Cel.sck kind b) else if 128 < a.1 + b.1 then (Cel.SO, 2) else (Cel.bothS a b, 0) by rw [hR]; unfold Cel.mg; rfl)
  obtain ⟨K1, hK1⟩ : ∃ K, K = Cel.sck kind a := ⟨_, rfl⟩
  obtain ⟨K2, hK2⟩ : ∃ K, K = Cel.sck kind b := ⟨_, rfl⟩
  obtain ⟨S, hS⟩ : ∃ S, S = Cel.bothS a b := ⟨_, rfl⟩
  rw [← hK1] at HC1 hr1 hk1 HBO HR
  rw [← hK2] at HC2 hr2 hk2 HBO HR
  rw [← hS] at HBO HR
  clear hR hK1 hK2 hS
  obtain ⟨rows, nulls, ⟨lk, ln, ls⟩, ⟨mk, mn, ms⟩⟩ := a
  obtain ⟨rows', nulls', ⟨lk', ln', ls'⟩, ⟨mk', mn', ms'⟩⟩ := b
  obtain ⟨r, nn, ⟨xk, xn, xs⟩, ⟨yk, yn, ys⟩⟩ := S
  simp only at hr1 hr2 HC1 HC2 HR
  have hix0 := run_index_agg (P := Try.prog) (n := 2) (m := 8) Try.underlying60 Try.underlying27 rfl (by kernel_rfl) #[.int .i64 rows, .int .i64 nulls, .int .i64 lk, .int .u64 (ln : Int), .string ls, .int .i64 mk, .int .u64 (mn : Int), .string ms, .int .i64 rows', .int .i64 nulls', .int .i64 lk', .int .u64 (ln' : Int), .string ls', .int .i64 mk', .int .u64 (mn' : Int), .string ms'] #[.int .i64 rows, .int .i64 nulls, .int .i64 lk, .int .u64 (ln : Int), .string ls, .int .i64 mk, .int .u64 (mn : Int), .string ms] .i64 0 (by decide) rfl
  have hix1 := run_index_agg (P := Try.prog) (n := 2) (m := 8) Try.underlying60 Try.underlying27 rfl (by kernel_rfl) #[.int .i64 rows, .int .i64 nulls, .int .i64 lk, .int .u64 (ln : Int), .string ls, .int .i64 mk, .int .u64 (mn : Int), .string ms, .int .i64 rows', .int .i64 nulls', .int .i64 lk', .int .u64 (ln' : Int), .string ls', .int .i64 mk', .int .u64 (mn' : Int), .string ms'] #[.int .i64 rows', .int .i64 nulls', .int .i64 lk', .int .u64 (ln' : Int), .string ls', .int .i64 mk', .int .u64 (mn' : Int), .string ms'] .i64 1 (by decide) rfl
  simp only [Int.cast_ofNat_Int] at hix0 hix1
  have HB1 := hid (show Blk (((w.alloc (.cells #[.int .i64 rows, .int .i64 nulls, .int .i64 lk, .int .u64 (ln : Int), .string ls, .int .i64 mk, .int .u64 (mn : Int), .string ms] 27)).alloc (.cells #[.int .i64 rows', .int .i64 nulls', .int .i64 lk', .int .u64 (ln' : Int), .string ls', .int .i64 mk', .int .u64 (mn' : Int), .string ms'] 27)).alloc (.cells #[.int .i64 0, .int .i64 0, .int .i64 0, .int .u64 0, .string .empty, .int .i64 0, .int .u64 0, .string .empty] 27)) w.heap.size 27 #[.int .i64 rows, .int .i64 nulls, .int .i64 lk, .int .u64 (ln : Int), .string ls, .int .i64 mk, .int .u64 (mn : Int), .string ms] from ((Blk.new w _ _).alloc _).alloc _)
  have HB2 := hid (show Blk (((w.alloc (.cells #[.int .i64 rows, .int .i64 nulls, .int .i64 lk, .int .u64 (ln : Int), .string ls, .int .i64 mk, .int .u64 (mn : Int), .string ms] 27)).alloc (.cells #[.int .i64 rows', .int .i64 nulls', .int .i64 lk', .int .u64 (ln' : Int), .string ls', .int .i64 mk', .int .u64 (mn' : Int), .string ms'] 27)).alloc (.cells #[.int .i64 0, .int .i64 0, .int .i64 0, .int .u64 0, .string .empty, .int .i64 0, .int .u64 0, .string .empty] 27)) (w.heap.size + 1) 27 #[.int .i64 rows', .int .i64 nulls', .int .i64 lk', .int .u64 (ln' : Int), .string ls', .int .i64 mk', .int .u64 (mn' : Int), .string ms'] from (Blk.newAt (by simp)).alloc _)
  have HB4 := hid (show Blk (((w.alloc (.cells #[.int .i64 rows, .int .i64 nulls, .int .i64 lk, .int .u64 (ln : Int), .string ls, .int .i64 mk, .int .u64 (mn : Int), .string ms] 27)).alloc (.cells #[.int .i64 rows', .int .i64 nulls', .int .i64 lk', .int .u64 (ln' : Int), .string ls', .int .i64 mk', .int .u64 (mn' : Int), .string ms'] 27)).alloc (.cells #[.int .i64 0, .int .i64 0, .int .i64 0, .int .u64 0, .string .empty, .int .i64 0, .int .u64 0, .string .empty] 27)) (w.heap.size + 1 + 1) 27 #[.int .i64 0, .int .i64 0, .int .i64 0, .int .u64 0, .string .empty, .int .i64 0, .int .u64 0, .string .empty] from Blk.newAt (by simp))
  have HX0 := hid (show Ext w (((w.alloc (.cells #[.int .i64 rows, .int .i64 nulls, .int .i64 lk, .int .u64 (ln : Int), .string ls, .int .i64 mk, .int .u64 (mn : Int), .string ms] 27)).alloc (.cells #[.int .i64 rows', .int .i64 nulls', .int .i64 lk', .int .u64 (ln' : Int), .string ls', .int .i64 mk', .int .u64 (mn' : Int), .string ms'] 27)).alloc (.cells #[.int .i64 0, .int .i64 0, .int .i64 0, .int .u64 0, .string .empty, .int .i64 0, .int .u64 0, .string .empty] 27)) from Ext.new (Ext.new (Ext.new (ext_refl w) _) _) _)
  by_cases h1 : K1 = 0
  · subst h1
    have r1 := hr1 rfl
    by_cases h2 : K2 = 0
    · subst h2
      have r2 := hr2 rfl
      have HBB := hid (HBO.out rfl rfl)
      obtain ⟨⟨r1a, r1b⟩, r1c, r1d⟩ := r1
      obtain ⟨⟨r2a, r2b⟩, r2c, r2d⟩ := r2
      clear hk1 hk2 hr1 hr2 HBO
      by_cases h3 : 128 < rows + rows'
      · have HE := hid (show R = (Cel.SO, 2) by rw [HR.out, if_neg (by simp), if_neg (by simp), if_pos h3])
        clear HR HBB
        go_enter Try.func19, Try.ntmps19
        go_wp2
        refine wp_loop_rounds 3 ?_
        rw [rounds_succ]
        go_wp2_with fail
        refine (HC1.out _).mono ?_
        rintro e w2 ⟨rfl, hx⟩
        replace HB1 := hid (HB1.out.keep (Ext.then (Ext.new (ext_refl _) _) hx))
        replace HB2 := hid (HB2.out.keep (Ext.then (Ext.new (ext_refl _) _) hx))
        replace HB4 := hid (HB4.out.keep (Ext.then (Ext.new (ext_refl _) _) hx))
        replace HX0 := hid (HX0.out.then (Ext.then (Ext.new (ext_refl _) _) hx))
        clear hx
        go_wp2_with fail
        rw [rounds_succ]
        go_wp2_with fail
        refine (HC2.out _).mono ?_
        rintro e w3 ⟨rfl, hx⟩
        replace HB1 := hid (HB1.out.keep (Ext.then (Ext.new (ext_refl _) _) hx))
        replace HB2 := hid (HB2.out.keep (Ext.then (Ext.new (ext_refl _) _) hx))
        replace HB4 := hid (HB4.out.keep (Ext.then (Ext.new (ext_refl _) _) hx))
        replace HX0 := hid (HX0.out.then (Ext.then (Ext.new (ext_refl _) _) hx))
        clear hx
        go_wp2_with fail
        rw [rounds_succ]
        obtain ⟨⟨p0, p1, p2, p3⟩, p4, p5, p6, p7⟩ := HB1.out.c8
        obtain ⟨⟨q0, q1, q2, q3⟩, q4, q5, q6, q7⟩ := HB2.out.c8
        go_wp2_with (with_reducible (show wpList _ _ _ (⟨none, .store 27 (.tmp 6) (.tmp 31), _, _, _, _⟩ :: _) _ _); go_loud (refine wpList_store_blk rfl 27 (.tmp 6) (.tmp 31) rfl (w.heap.size + 1 + 1) #[.int .i64 0, .int .i64 0, .int .i64 0, .int .u64 0, .string .empty, .int .i64 0, .int .u64 0, .string .empty] rfl rfl 27 _ HB4.out (by kernel_rfl) rfl (by simp [Value.oneCell']) w.heap.size (by omega) ?_; intro w9 hB9 hF9 hL9; have HB9 := hid hB9; have X9 : Hid (Ext w w9) := hid (HX0.out.trans hL9); clear hB9 hF9 hL9))
        refine bodyPost_ret (results_blk2 rfl _ _ (w.heap.size + 1 + 1) 27 _ _ rfl HB9.out Try.underlying27 rfl (by kernel_rfl)) rfl ?_
        exact ⟨by rw [HE.out] <;> rfl, X9.out⟩
      · have HE := hid (show R = ((r, nn, (xk, xn, xs), yk, yn, ys), 0) by rw [HR.out, if_neg (by simp), if_neg (by simp), if_neg h3])
        clear HR
        go_enter Try.func19, Try.ntmps19
        go_wp2
        refine wp_loop_rounds 3 ?_
        rw [rounds_succ]
        go_wp2_with fail
        refine (HC1.out _).mono ?_
        rintro e w2 ⟨rfl, hx⟩
        replace HB1 := hid (HB1.out.keep (Ext.then (Ext.new (ext_refl _) _) hx))
        replace HB2 := hid (HB2.out.keep (Ext.then (Ext.new (ext_refl _) _) hx))
        replace HB4 := hid (HB4.out.keep (Ext.then (Ext.new (ext_refl _) _) hx))
        replace HX0 := hid (HX0.out.then (Ext.then (Ext.new (ext_refl _) _) hx))
        clear hx
        go_wp2_with fail
        rw [rounds_succ]
        go_wp2_with fail
        refine (HC2.out _).mono ?_
        rintro e w3 ⟨rfl, hx⟩
        replace HB1 := hid (HB1.out.keep (Ext.then (Ext.new (ext_refl _) _) hx))
        replace HB2 := hid (HB2.out.keep (Ext.then (Ext.new (ext_refl _) _) hx))
        replace HB4 := hid (HB4.out.keep (Ext.then (Ext.new (ext_refl _) _) hx))
        replace HX0 := hid (HX0.out.then (Ext.then (Ext.new (ext_refl _) _) hx))
        clear hx
        go_wp2_with fail
        rw [rounds_succ]
        obtain ⟨⟨p0, p1, p2, p3⟩, p4, p5, p6, p7⟩ := HB1.out.c8
        obtain ⟨⟨q0, q1, q2, q3⟩, q4, q5, q6, q7⟩ := HB2.out.c8
        go_wp2_with fail
        refine (HBB.out _).mono ?_
        rintro e w5 ⟨rfl, hx⟩
        replace HB1 := hid (HB1.out.keep (Ext.then (ext_refl _) hx))
        replace HB2 := hid (HB2.out.keep (Ext.then (ext_refl _) hx))
        replace HB4 := hid (HB4.out.keep (Ext.then (ext_refl _) hx))
        replace HX0 := hid (HX0.out.then (Ext.then (ext_refl _) hx))
        clear hx
        go_wp2_with (with_reducible (show wpList _ _ _ (⟨none, .store 27 (.tmp 6) (.tmp 34), _, _, _, _⟩ :: _) _ _); go_loud (refine wpList_store_blk rfl 27 (.tmp 6) (.tmp 34) rfl (w.heap.size + 1 + 1) #[.int .i64 r, .int .i64 nn, .int .i64 xk, .int .u64 (xn : Int), .string xs, .int .i64 yk, .int .u64 (yn : Int), .string ys] rfl rfl 27 _ HB4.out (by kernel_rfl) rfl (by simp [Value.oneCell']) w.heap.size (by omega) ?_; intro w9 hB9 hF9 hL9; have HB9 := hid hB9; have X9 : Hid (Ext w w9) := hid (HX0.out.trans hL9); clear hB9 hF9 hL9))
        refine bodyPost_ret (results_blk2 rfl _ _ (w.heap.size + 1 + 1) 27 _ _ rfl HB9.out Try.underlying27 rfl (by kernel_rfl)) rfl ?_
        exact ⟨by rw [HE.out] <;> rfl, X9.out⟩
    · have HE := hid (show R = (Cel.SO, K2) by rw [HR.out, if_neg (by simp), if_pos h2])
      have e1 : ((K2 : Int) == 0) = false := by rw [beq_eq_false_iff_ne]; omega
      have e2 : ((K2 : Int) != 0) = true := by simp; omega
      clear HR hk1 hk2 hr1 hr2 HBO h2 r1
      go_enter Try.func19, Try.ntmps19
      go_wp2
      refine wp_loop_rounds 3 ?_
      rw [rounds_succ]
      go_wp2_with fail
      refine (HC1.out _).mono ?_
      rintro e w2 ⟨rfl, hx⟩
      replace HB1 := hid (HB1.out.keep (Ext.then (Ext.new (ext_refl _) _) hx))
      replace HB2 := hid (HB2.out.keep (Ext.then (Ext.new (ext_refl _) _) hx))
      replace HB4 := hid (HB4.out.keep (Ext.then (Ext.new (ext_refl _) _) hx))
      replace HX0 := hid (HX0.out.then (Ext.then (Ext.new (ext_refl _) _) hx))
      clear hx
      go_wp2_with fail
      rw [rounds_succ]
      go_wp2_with fail
      refine (HC2.out _).mono ?_
      rintro e w3 ⟨rfl, hx⟩
      replace HB1 := hid (HB1.out.keep (Ext.then (Ext.new (ext_refl _) _) hx))
      replace HB2 := hid (HB2.out.keep (Ext.then (Ext.new (ext_refl _) _) hx))
      replace HB4 := hid (HB4.out.keep (Ext.then (Ext.new (ext_refl _) _) hx))
      replace HX0 := hid (HX0.out.then (Ext.then (Ext.new (ext_refl _) _) hx))
      clear hx
      go_wp2_with (with_reducible (show wpList _ _ _ (⟨none, .store 27 (.tmp 6) (.tmp 22), _, _, _, _⟩ :: _) _ _); go_loud (refine wpList_store_blk rfl 27 (.tmp 6) (.tmp 22) rfl (w.heap.size + 1 + 1) #[.int .i64 0, .int .i64 0, .int .i64 0, .int .u64 0, .string .empty, .int .i64 0, .int .u64 0, .string .empty] rfl rfl 27 _ HB4.out (by kernel_rfl) rfl (by simp [Value.oneCell']) w.heap.size (by omega) ?_; intro w9 hB9 hF9 hL9; have HB9 := hid hB9; have X9 : Hid (Ext w w9) := hid (HX0.out.trans hL9); clear hB9 hF9 hL9))
      refine bodyPost_ret (results_blk2 rfl _ _ (w.heap.size + 1 + 1) 27 _ _ rfl HB9.out Try.underlying27 rfl (by kernel_rfl)) rfl ?_
      exact ⟨by rw [HE.out] <;> rfl, X9.out⟩
  · have HE := hid (show R = (Cel.SO, K1) by rw [HR.out, if_pos h1])
    have e1 : ((K1 : Int) == 0) = false := by rw [beq_eq_false_iff_ne]; omega
    have e2 : ((K1 : Int) != 0) = true := by simp; omega
    clear HR hk1 hk2 hr1 hr2 HBO h1
    go_enter Try.func19, Try.ntmps19
    go_wp2
    refine wp_loop_rounds 3 ?_
    rw [rounds_succ]
    go_wp2_with fail
    refine (HC1.out _).mono ?_
    rintro e w2 ⟨rfl, hx⟩
    replace HB1 := hid (HB1.out.keep (Ext.then (Ext.new (ext_refl _) _) hx))
    replace HB2 := hid (HB2.out.keep (Ext.then (Ext.new (ext_refl _) _) hx))
    replace HB4 := hid (HB4.out.keep (Ext.then (Ext.new (ext_refl _) _) hx))
    replace HX0 := hid (HX0.out.then (Ext.then (Ext.new (ext_refl _) _) hx))
    clear hx
    go_wp2_with (with_reducible (show wpList _ _ _ (⟨none, .store 27 (.tmp 6) (.tmp 22), _, _, _, _⟩ :: _) _ _); go_loud (refine wpList_store_blk rfl 27 (.tmp 6) (.tmp 22) rfl (w.heap.size + 1 + 1) #[.int .i64 0, .int .i64 0, .int .i64 0, .int .u64 0, .string .empty, .int .i64 0, .int .u64 0, .string .empty] rfl rfl 27 _ HB4.out (by kernel_rfl) rfl (by simp [Value.oneCell']) w.heap.size (by omega) ?_; intro w9 hB9 hF9 hL9; have HB9 := hid hB9; have X9 : Hid (Ext w w9) := hid (HX0.out.trans hL9); clear hB9 hF9 hL9))
    refine bodyPost_ret (results_blk2 rfl _ _ (w.heap.size + 1 + 1) 27 _ _ rfl HB9.out Try.underlying27 rfl (by kernel_rfl)) rfl ?_
    exact ⟨by rw [HE.out] <;> rfl, X9.out⟩
end Go.Proofs.Ytikdmnedbfpkeaa
