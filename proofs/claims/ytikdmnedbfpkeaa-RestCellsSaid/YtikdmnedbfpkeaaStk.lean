/- Stats: the document's MergedOf: walk. -/
import Derived.Test.YtikdmnedbfpkeaaStf
import Derived.Test.YtikdmnedbfpkeaaSth
import Derived.Test.YtikdmnedbfpkeaaStj
namespace Hy.Cel
@[irreducible] def mof (kind : Int) (a b : Sta) : Sta × Nat :=
  if sck kind a ≠ 0 then (SO, sck kind a) else if sck kind b ≠ 0 then (SO, sck kind b) else if 128 < a.1 + b.1 then (SO, 2) else ((a.1 + b.1, a.2.1 + b.2.1, (known [a.2.2.1, a.2.2.2, b.2.2.1, b.2.2.2]).2.2.1, (known [a.2.2.1, a.2.2.2, b.2.2.1, b.2.2.2]).2.2.2), 0)
theorem sck_alone {kind : Int} {s : Sta} (h : sck kind s = 0) : alone kind s.2.2.1 = 0 ∧ alone kind s.2.2.2 = 0 := by
  unfold sck at h
  split at h
  · cases h
  · split at h
    · cases h
    · split at h
      · rename_i h1; exact absurd h h1
      · split at h
        · rename_i h1; exact absurd h h1
        · rename_i h1 h2; exact ⟨Decidable.not_not.1 h1, Decidable.not_not.1 h2⟩
end Hy.Cel
namespace Go.Proofs.Ytikdmnedbfpkeaa
open Go.RowKit Hy
set_option maxHeartbeats 4000000 in
theorem mergedOf_any (kind : Int) (a b : Sta) (w : World) :
    Calls Try.prog 20 #[.int .i64 kind, staV a, staV b] w fun e w' => e = .returned (.tuple #[staV (Cel.mof kind a b).1, .int .i64 ((Cel.mof kind a b).2 : Nat)]) ∧ Ext w w' := by
  have HC1 := hid (knownCheck_any kind a)
  have HC2 := hid (knownCheck_any kind b)
  have hr1 := fun h => Cel.sck_rng (kind := kind) (s := a) h
  have hr2 := fun h => Cel.sck_rng (kind := kind) (s := b) h
  have hk1 := Cel.sck_le kind a
  have hk2 := Cel.sck_le kind b
  have HBO := hid (fun (h1 : Cel.sck kind a = 0) (h2 : Cel.sck kind b = 0) => fun (A : Option Addr) (w' : World) (hr : Rd w' A (cls [a.2.2.1, a.2.2.2, b.2.2.1, b.2.2.2])) => knownOf_any [a.2.2.1, a.2.2.2, b.2.2.1, b.2.2.2] A 4 4 w' rfl hr (by omega) (fun c hc => by
    have e1 := Cel.alone_size (Cel.sck_alone h1).1
    have e2 := Cel.alone_size (Cel.sck_alone h1).2
    have e3 := Cel.alone_size (Cel.sck_alone h2).1
    have e4 := Cel.alone_size (Cel.sck_alone h2).2
    simp only [List.mem_cons, List.not_mem_nil, or_false] at hc
    rcases hc with rfl | rfl | rfl | rfl <;> omega))
  obtain ⟨R, hR⟩ : ∃ R, R = Cel.mof kind a b := ⟨_, rfl⟩
  rw [← hR]
  have HR := hid (show R = if Cel.sck kind a ≠ 0 then (Cel.SO, Cel.sck kind a) else if Cel.sck kind b ≠ 0 then (Cel.SO, Cel.sck kind b) else if 128 < a.1 + b.1 then (Cel.SO, 2) else ((a.1 + b.1, a.2.1 + b.2.1, (Cel.known [a.2.2.1, a.2.2.2, b.2.2.1, b.2.2.2]).2.2.1, (Cel.known [a.2.2.1, a.2.2.2, b.2.2.1, b.2.2.2]).2.2.2), 0) by rw [hR]; unfold Cel.mof; rfl)
  obtain ⟨K1, hK1⟩ : ∃ K, K = Cel.sck kind a := ⟨_, rfl⟩
  obtain ⟨K2, hK2⟩ : ∃ K, K = Cel.sck kind b := ⟨_, rfl⟩
  obtain ⟨S, hS⟩ : ∃ S, S = Cel.known [a.2.2.1, a.2.2.2, b.2.2.1, b.2.2.2] := ⟨_, rfl⟩
  rw [← hK1] at HC1 hr1 hk1 HBO HR
  rw [← hK2] at HC2 hr2 hk2 HBO HR
  rw [← hS] at HBO HR
  clear hR hK1 hK2 hS
  obtain ⟨rows, nulls, ⟨lk, ln, ls⟩, ⟨mk, mn, ms⟩⟩ := a
  obtain ⟨rows', nulls', ⟨lk', ln', ls'⟩, ⟨mk', mn', ms'⟩⟩ := b
  obtain ⟨r, nn, ⟨xk, xn, xs⟩, ⟨yk, yn, ys⟩⟩ := S
  simp only at hr1 hr2 HC1 HC2 HR HBO
  have HB1 := hid (show Blk (((w.alloc (.cells #[.int .i64 rows, .int .i64 nulls, .int .i64 lk, .int .u64 (ln : Int), .string ls, .int .i64 mk, .int .u64 (mn : Int), .string ms] 27)).alloc (.cells #[.int .i64 rows', .int .i64 nulls', .int .i64 lk', .int .u64 (ln' : Int), .string ls', .int .i64 mk', .int .u64 (mn' : Int), .string ms'] 27)).alloc (.cells #[.int .i64 0, .int .i64 0, .int .i64 0, .int .u64 0, .string .empty, .int .i64 0, .int .u64 0, .string .empty] 27)) w.heap.size 27 #[.int .i64 rows, .int .i64 nulls, .int .i64 lk, .int .u64 (ln : Int), .string ls, .int .i64 mk, .int .u64 (mn : Int), .string ms] from ((Blk.new w _ _).alloc _).alloc _)
  have HB2 := hid (show Blk (((w.alloc (.cells #[.int .i64 rows, .int .i64 nulls, .int .i64 lk, .int .u64 (ln : Int), .string ls, .int .i64 mk, .int .u64 (mn : Int), .string ms] 27)).alloc (.cells #[.int .i64 rows', .int .i64 nulls', .int .i64 lk', .int .u64 (ln' : Int), .string ls', .int .i64 mk', .int .u64 (mn' : Int), .string ms'] 27)).alloc (.cells #[.int .i64 0, .int .i64 0, .int .i64 0, .int .u64 0, .string .empty, .int .i64 0, .int .u64 0, .string .empty] 27)) (w.heap.size + 1) 27 #[.int .i64 rows', .int .i64 nulls', .int .i64 lk', .int .u64 (ln' : Int), .string ls', .int .i64 mk', .int .u64 (mn' : Int), .string ms'] from (Blk.newAt (by simp)).alloc _)
  have HB4 := hid (show Blk (((w.alloc (.cells #[.int .i64 rows, .int .i64 nulls, .int .i64 lk, .int .u64 (ln : Int), .string ls, .int .i64 mk, .int .u64 (mn : Int), .string ms] 27)).alloc (.cells #[.int .i64 rows', .int .i64 nulls', .int .i64 lk', .int .u64 (ln' : Int), .string ls', .int .i64 mk', .int .u64 (mn' : Int), .string ms'] 27)).alloc (.cells #[.int .i64 0, .int .i64 0, .int .i64 0, .int .u64 0, .string .empty, .int .i64 0, .int .u64 0, .string .empty] 27)) (w.heap.size + 1 + 1) 27 #[.int .i64 0, .int .i64 0, .int .i64 0, .int .u64 0, .string .empty, .int .i64 0, .int .u64 0, .string .empty] from Blk.newAt (by simp))
  have HX0 := hid (show Ext w (((w.alloc (.cells #[.int .i64 rows, .int .i64 nulls, .int .i64 lk, .int .u64 (ln : Int), .string ls, .int .i64 mk, .int .u64 (mn : Int), .string ms] 27)).alloc (.cells #[.int .i64 rows', .int .i64 nulls', .int .i64 lk', .int .u64 (ln' : Int), .string ls', .int .i64 mk', .int .u64 (mn' : Int), .string ms'] 27)).alloc (.cells #[.int .i64 0, .int .i64 0, .int .i64 0, .int .u64 0, .string .empty, .int .i64 0, .int .u64 0, .string .empty] 27)) from Ext.new (Ext.new (Ext.new (ext_refl w) _) _) _)
  by_cases h1 : K1 = 0
  · subst h1
    have r1 := hr1 rfl
    by_cases h2 : K2 = 0
    · subst h2
      have r2 := hr2 rfl
      have HBB := hid (HBO.out rfl rfl)
      obtain ⟨⟨r1a, r1b⟩, r1c, r1d⟩ := r1
      obtain ⟨⟨r2a, r2b⟩, r2c, r2d⟩ := r2
      clear hk1 hk2 hr1 hr2 HBO
      by_cases h3 : 128 < rows + rows'
      · have HE := hid (show R = (Cel.SO, 2) by rw [HR.out, if_neg (by simp), if_neg (by simp), if_pos h3])
        clear HR HBB
        go_enter Try.func20, Try.ntmps20
        go_wp2_with fail
        refine (HC1.out _).mono ?_
        rintro e w2 ⟨rfl, hx⟩
        replace HB1 := hid (HB1.out.keep hx)
        replace HB2 := hid (HB2.out.keep hx)
        replace HB4 := hid (HB4.out.keep hx)
        replace HX0 := hid (HX0.out.then hx)
        clear hx
        obtain ⟨⟨p0, p1, p2, p3⟩, p4, p5, p6, p7⟩ := HB1.out.c8
        obtain ⟨⟨q0, q1, q2, q3⟩, q4, q5, q6, q7⟩ := HB2.out.c8
        go_wp2_with fail
        clear p0 p1 p2 p3 p4 p5 p6 p7 q0 q1 q2 q3 q4 q5 q6 q7
        refine (HC2.out _).mono ?_
        rintro e w3 ⟨rfl, hx⟩
        replace HB1 := hid (HB1.out.keep hx)
        replace HB2 := hid (HB2.out.keep hx)
        replace HB4 := hid (HB4.out.keep hx)
        replace HX0 := hid (HX0.out.then hx)
        clear hx
        obtain ⟨⟨p0, p1, p2, p3⟩, p4, p5, p6, p7⟩ := HB1.out.c8
        obtain ⟨⟨q0, q1, q2, q3⟩, q4, q5, q6, q7⟩ := HB2.out.c8
        go_wp2_with (with_reducible (show wpList _ _ _ (⟨none, .store 27 (.tmp 6) (.tmp 30), _, _, _, _⟩ :: _) _ _); go_loud (refine wpList_store_blk rfl 27 (.tmp 6) (.tmp 30) rfl (w.heap.size + 1 + 1) #[.int .i64 0, .int .i64 0, .int .i64 0, .int .u64 0, .string .empty, .int .i64 0, .int .u64 0, .string .empty] rfl rfl 27 _ HB4.out (by kernel_rfl) rfl (by simp [Value.oneCell']) w.heap.size (by omega) ?_; intro w9 hB9 hF9 hL9; have HB9 := hid hB9; have X9 : Hid (Ext w w9) := hid (HX0.out.trans hL9); clear hB9 hF9 hL9))
        refine bodyPost_ret (results_blk2 rfl _ _ (w.heap.size + 1 + 1) 27 _ _ rfl HB9.out Try.underlying27 rfl (by kernel_rfl)) rfl ?_
        exact ⟨by rw [HE.out] <;> rfl, X9.out⟩
      · have HE := hid (show R = ((rows + rows', nulls + nulls', (xk, xn, xs), yk, yn, ys), 0) by rw [HR.out, if_neg (by simp), if_neg (by simp), if_neg h3])
        clear HR
        go_enter Try.func20, Try.ntmps20
        go_wp2_with fail
        refine (HC1.out _).mono ?_
        rintro e w2 ⟨rfl, hx⟩
        replace HB1 := hid (HB1.out.keep hx)
        replace HB2 := hid (HB2.out.keep hx)
        replace HB4 := hid (HB4.out.keep hx)
        replace HX0 := hid (HX0.out.then hx)
        clear hx
        obtain ⟨⟨p0, p1, p2, p3⟩, p4, p5, p6, p7⟩ := HB1.out.c8
        obtain ⟨⟨q0, q1, q2, q3⟩, q4, q5, q6, q7⟩ := HB2.out.c8
        go_wp2_with fail
        clear p0 p1 p2 p3 p4 p5 p6 p7 q0 q1 q2 q3 q4 q5 q6 q7
        refine (HC2.out _).mono ?_
        rintro e w3 ⟨rfl, hx⟩
        replace HB1 := hid (HB1.out.keep hx)
        replace HB2 := hid (HB2.out.keep hx)
        replace HB4 := hid (HB4.out.keep hx)
        replace HX0 := hid (HX0.out.then hx)
        clear hx
        obtain ⟨⟨p0, p1, p2, p3⟩, p4, p5, p6, p7⟩ := HB1.out.c8
        obtain ⟨⟨q0, q1, q2, q3⟩, q4, q5, q6, q7⟩ := HB2.out.c8
        go_wp2_with fail
        refine (HBB.out _ _ (rd_new rfl fun j u hu => by rw [← Array.getElem?_toList]; exact hu)).mono ?_
        rintro e w5 ⟨rfl, hx⟩
        replace HB1 := hid (HB1.out.keep (Ext.then (Ext.new (ext_refl _) _) hx))
        replace HB2 := hid (HB2.out.keep (Ext.then (Ext.new (ext_refl _) _) hx))
        replace HB4 := hid (HB4.out.keep (Ext.then (Ext.new (ext_refl _) _) hx))
        replace HX0 := hid (HX0.out.then (Ext.then (Ext.new (ext_refl _) _) hx))
        clear hx p0 p1 p2 p3 p4 p5 p6 p7 q0 q1 q2 q3 q4 q5 q6 q7
        obtain ⟨⟨p0, -, -, -⟩, -, -, -, -⟩ := (HB1.out.alloc (.cells #[.int .i64 r, .int .i64 nn, .int .i64 xk, .int .u64 (xn : Int), .string xs, .int .i64 yk, .int .u64 (yn : Int), .string ys] 27)).c8
        obtain ⟨⟨q0, -, -, -⟩, -, -, -, -⟩ := (HB2.out.alloc (.cells #[.int .i64 r, .int .i64 nn, .int .i64 xk, .int .u64 (xn : Int), .string xs, .int .i64 yk, .int .u64 (yn : Int), .string ys] 27)).c8
        obtain ⟨⟨-, p1, -, -⟩, -, -, -, -⟩ := (HB1.out.alloc (.cells #[.int .i64 (rows + rows'), .int .i64 nn, .int .i64 xk, .int .u64 (xn : Int), .string xs, .int .i64 yk, .int .u64 (yn : Int), .string ys] 27)).c8
        obtain ⟨⟨-, q1, -, -⟩, -, -, -, -⟩ := (HB2.out.alloc (.cells #[.int .i64 (rows + rows'), .int .i64 nn, .int .i64 xk, .int .u64 (xn : Int), .string xs, .int .i64 yk, .int .u64 (yn : Int), .string ys] 27)).c8
        replace HB4 := hid (HB4.out.alloc (.cells #[.int .i64 (rows + rows'), .int .i64 (nulls + nulls'), .int .i64 xk, .int .u64 (xn : Int), .string xs, .int .i64 yk, .int .u64 (yn : Int), .string ys] 27))
        replace HX0 := hid (Ext.new HX0.out (.cells #[.int .i64 (rows + rows'), .int .i64 (nulls + nulls'), .int .i64 xk, .int .u64 (xn : Int), .string xs, .int .i64 yk, .int .u64 (yn : Int), .string ys] 27))
        go_wp2_with (with_reducible (show wpList _ _ _ (⟨none, .store 27 (.tmp 6) (.tmp 54), _, _, _, _⟩ :: _) _ _); go_loud (refine wpList_store_blk rfl 27 (.tmp 6) (.tmp 54) rfl (w.heap.size + 1 + 1) #[.int .i64 (rows + rows'), .int .i64 (nulls + nulls'), .int .i64 xk, .int .u64 (xn : Int), .string xs, .int .i64 yk, .int .u64 (yn : Int), .string ys] rfl rfl 27 _ HB4.out (by kernel_rfl) rfl (by simp [Value.oneCell']) w.heap.size (by omega) ?_; intro w9 hB9 hF9 hL9; have HB9 := hid hB9; have X9 : Hid (Ext w w9) := hid (HX0.out.trans hL9); clear hB9 hF9 hL9))
        refine bodyPost_ret (results_blk2 rfl _ _ (w.heap.size + 1 + 1) 27 _ _ rfl HB9.out Try.underlying27 rfl (by kernel_rfl)) rfl ?_
        exact ⟨by rw [HE.out] <;> rfl, X9.out⟩
    · have HE := hid (show R = (Cel.SO, K2) by rw [HR.out, if_neg (by simp), if_pos h2])
      have e1 : ((K2 : Int) == 0) = false := by rw [beq_eq_false_iff_ne]; omega
      have e2 : ((K2 : Int) != 0) = true := by simp; omega
      clear HR hk1 hk2 hr1 hr2 HBO h2 r1
      go_enter Try.func20, Try.ntmps20
      go_wp2_with fail
      refine (HC1.out _).mono ?_
      rintro e w2 ⟨rfl, hx⟩
      replace HB1 := hid (HB1.out.keep hx)
      replace HB2 := hid (HB2.out.keep hx)
      replace HB4 := hid (HB4.out.keep hx)
      replace HX0 := hid (HX0.out.then hx)
      clear hx
      obtain ⟨⟨p0, p1, p2, p3⟩, p4, p5, p6, p7⟩ := HB1.out.c8
      obtain ⟨⟨q0, q1, q2, q3⟩, q4, q5, q6, q7⟩ := HB2.out.c8
      go_wp2_with fail
      clear p0 p1 p2 p3 p4 p5 p6 p7 q0 q1 q2 q3 q4 q5 q6 q7
      refine (HC2.out _).mono ?_
      rintro e w3 ⟨rfl, hx⟩
      replace HB1 := hid (HB1.out.keep hx)
      replace HB2 := hid (HB2.out.keep hx)
      replace HB4 := hid (HB4.out.keep hx)
      replace HX0 := hid (HX0.out.then hx)
      clear hx
      go_wp2_with (with_reducible (show wpList _ _ _ (⟨none, .store 27 (.tmp 6) (.tmp 30), _, _, _, _⟩ :: _) _ _); go_loud (refine wpList_store_blk rfl 27 (.tmp 6) (.tmp 30) rfl (w.heap.size + 1 + 1) #[.int .i64 0, .int .i64 0, .int .i64 0, .int .u64 0, .string .empty, .int .i64 0, .int .u64 0, .string .empty] rfl rfl 27 _ HB4.out (by kernel_rfl) rfl (by simp [Value.oneCell']) w.heap.size (by omega) ?_; intro w9 hB9 hF9 hL9; have HB9 := hid hB9; have X9 : Hid (Ext w w9) := hid (HX0.out.trans hL9); clear hB9 hF9 hL9))
      refine bodyPost_ret (results_blk2 rfl _ _ (w.heap.size + 1 + 1) 27 _ _ rfl HB9.out Try.underlying27 rfl (by kernel_rfl)) rfl ?_
      exact ⟨by rw [HE.out] <;> rfl, X9.out⟩
  · have HE := hid (show R = (Cel.SO, K1) by rw [HR.out, if_pos h1])
    have e1 : ((K1 : Int) == 0) = false := by rw [beq_eq_false_iff_ne]; omega
    have e2 : ((K1 : Int) != 0) = true := by simp; omega
    clear HR hk1 hk2 hr1 hr2 HBO h1
    go_enter Try.func20, Try.ntmps20
    go_wp2_with fail
    refine (HC1.out _).mono ?_
    rintro e w2 ⟨rfl, hx⟩
    replace HB1 := hid (HB1.out.keep hx)
    replace HB2 := hid (HB2.out.keep hx)
    replace HB4 := hid (HB4.out.keep hx)
    replace HX0 := hid (HX0.out.then hx)
    clear hx
    go_wp2_with (with_reducible (show wpList _ _ _ (⟨none, .store 27 (.tmp 6) (.tmp 30), _, _, _, _⟩ :: _) _ _); go_loud (refine wpList_store_blk rfl 27 (.tmp 6) (.tmp 30) rfl (w.heap.size + 1 + 1) #[.int .i64 0, .int .i64 0, .int .i64 0, .int .u64 0, .string .empty, .int .i64 0, .int .u64 0, .string .empty] rfl rfl 27 _ HB4.out (by kernel_rfl) rfl (by simp [Value.oneCell']) w.heap.size (by omega) ?_; intro w9 hB9 hF9 hL9; have HB9 := hid hB9; have X9 : Hid (Ext w w9) := hid (HX0.out.trans hL9); clear hB9 hF9 hL9))
    refine bodyPost_ret (results_blk2 rfl _ _ (w.heap.size + 1 + 1) 27 _ _ rfl HB9.out Try.underlying27 rfl (by kernel_rfl)) rfl ?_
    exact ⟨by rw [HE.out] <;> rfl, X9.out⟩
end Go.Proofs.Ytikdmnedbfpkeaa
