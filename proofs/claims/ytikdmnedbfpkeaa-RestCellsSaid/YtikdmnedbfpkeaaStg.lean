/- Stats: Both: walk. -/
import Derived.Test.YtikdmnedbfpkeaaStd
namespace Hy.Cel
def bothS (a b : Sta) : Sta := (a.1 + b.1, a.2.1 + b.2.1, minC a.2.2.1 b.2.2.1, maxC a.2.2.2 b.2.2.2)
end Hy.Cel
namespace Hy
theorem celA_one (c : Cel) : (#[.int .i64 c.1, .int .u64 (c.2.1 : Nat), .string c.2.2] : Array Go.Value).all (·.oneCell') = true := by simp [Go.Value.oneCell']
end Hy
namespace Go.Proofs.Ytikdmnedbfpkeaa
open Go.RowKit Hy
set_option maxHeartbeats 8000000 in
theorem both_any (a b : Sta) (w : World) (h1 : 0 ≤ a.1 ∧ a.1 ≤ 1000) (h2 : 0 ≤ b.1 ∧ b.1 ≤ 1000) (h3 : 0 ≤ a.2.1 ∧ a.2.1 ≤ 1000) (h4 : 0 ≤ b.2.1 ∧ b.2.1 ≤ 1000) :
    Calls Try.prog 39 #[staV a, staV b] w fun e w' => e = .returned (staV (Cel.bothS a b)) ∧ Ext w w' := by
  have HL1 := hid (less_any b.2.2.1 a.2.2.1)
  have HL2 := hid (less_any a.2.2.2 b.2.2.2)
  obtain ⟨R, hR⟩ : ∃ R, R = Cel.bothS a b := ⟨_, rfl⟩
  rw [← hR]
  have HR := hid (show R = (a.1 + b.1, a.2.1 + b.2.1, if a.2.2.1.1 = 0 ∨ (b.2.2.1.1 ≠ 0 ∧ Cel.less b.2.2.1 a.2.2.1 = true) then b.2.2.1 else a.2.2.1, if Cel.less a.2.2.2 b.2.2.2 then b.2.2.2 else a.2.2.2) from hR)
  clear hR
  obtain ⟨rows, nulls, ⟨lk, ln, ls⟩, ⟨mk, mn, ms⟩⟩ := a
  obtain ⟨rows', nulls', ⟨lk', ln', ls'⟩, ⟨mk', mn', ms'⟩⟩ := b
  obtain ⟨L1, hL1⟩ : ∃ L, L = Cel.less (lk', ln', ls') (lk, ln, ls) := ⟨_, rfl⟩
  obtain ⟨L2, hL2⟩ : ∃ L, L = Cel.less (mk, mn, ms) (mk', mn', ms') := ⟨_, rfl⟩
  simp only at h1 h2 h3 h4 HR HL1 HL2
  rw [← hL1] at HR HL1
  rw [← hL2] at HR HL2
  obtain ⟨h1a, h1b⟩ := h1
  obtain ⟨h2a, h2b⟩ := h2
  obtain ⟨h3a, h3b⟩ := h3
  obtain ⟨h4a, h4b⟩ := h4
  clear hL1 hL2
  have HB1 := hid (show Blk ((((w.alloc (.cells #[.int .i64 rows, .int .i64 nulls, .int .i64 lk, .int .u64 (ln : Int), .string ls, .int .i64 mk, .int .u64 (mn : Int), .string ms] 27)).alloc (.cells #[.int .i64 rows', .int .i64 nulls', .int .i64 lk', .int .u64 (ln' : Int), .string ls', .int .i64 mk', .int .u64 (mn' : Int), .string ms'] 27)).alloc (.cells #[.int .i64 0, .int .i64 0, .int .i64 0, .int .u64 0, .string .empty, .int .i64 0, .int .u64 0, .string .empty] 27)).alloc (.cells #[.int .i64 (rows + rows'), .int .i64 (nulls + nulls'), .int .i64 lk, .int .u64 (ln : Int), .string ls, .int .i64 mk, .int .u64 (mn : Int), .string ms] 27)) w.heap.size 27 #[.int .i64 rows, .int .i64 nulls, .int .i64 lk, .int .u64 (ln : Int), .string ls, .int .i64 mk, .int .u64 (mn : Int), .string ms] from (((Blk.new w _ _).alloc _).alloc _).alloc _)
  have HB2 := hid (show Blk ((((w.alloc (.cells #[.int .i64 rows, .int .i64 nulls, .int .i64 lk, .int .u64 (ln : Int), .string ls, .int .i64 mk, .int .u64 (mn : Int), .string ms] 27)).alloc (.cells #[.int .i64 rows', .int .i64 nulls', .int .i64 lk', .int .u64 (ln' : Int), .string ls', .int .i64 mk', .int .u64 (mn' : Int), .string ms'] 27)).alloc (.cells #[.int .i64 0, .int .i64 0, .int .i64 0, .int .u64 0, .string .empty, .int .i64 0, .int .u64 0, .string .empty] 27)).alloc (.cells #[.int .i64 (rows + rows'), .int .i64 (nulls + nulls'), .int .i64 lk, .int .u64 (ln : Int), .string ls, .int .i64 mk, .int .u64 (mn : Int), .string ms] 27)) (w.heap.size + 1) 27 #[.int .i64 rows', .int .i64 nulls', .int .i64 lk', .int .u64 (ln' : Int), .string ls', .int .i64 mk', .int .u64 (mn' : Int), .string ms'] from ((Blk.newAt (by simp)).alloc _).alloc _)
  have HB4 := hid (show Blk ((((w.alloc (.cells #[.int .i64 rows, .int .i64 nulls, .int .i64 lk, .int .u64 (ln : Int), .string ls, .int .i64 mk, .int .u64 (mn : Int), .string ms] 27)).alloc (.cells #[.int .i64 rows', .int .i64 nulls', .int .i64 lk', .int .u64 (ln' : Int), .string ls', .int .i64 mk', .int .u64 (mn' : Int), .string ms'] 27)).alloc (.cells #[.int .i64 0, .int .i64 0, .int .i64 0, .int .u64 0, .string .empty, .int .i64 0, .int .u64 0, .string .empty] 27)).alloc (.cells #[.int .i64 (rows + rows'), .int .i64 (nulls + nulls'), .int .i64 lk, .int .u64 (ln : Int), .string ls, .int .i64 mk, .int .u64 (mn : Int), .string ms] 27)) (w.heap.size + 1 + 1) 27 #[.int .i64 0, .int .i64 0, .int .i64 0, .int .u64 0, .string .empty, .int .i64 0, .int .u64 0, .string .empty] from (Blk.newAt (by simp)).alloc _)
  have HB5 := hid (show Blk ((((w.alloc (.cells #[.int .i64 rows, .int .i64 nulls, .int .i64 lk, .int .u64 (ln : Int), .string ls, .int .i64 mk, .int .u64 (mn : Int), .string ms] 27)).alloc (.cells #[.int .i64 rows', .int .i64 nulls', .int .i64 lk', .int .u64 (ln' : Int), .string ls', .int .i64 mk', .int .u64 (mn' : Int), .string ms'] 27)).alloc (.cells #[.int .i64 0, .int .i64 0, .int .i64 0, .int .u64 0, .string .empty, .int .i64 0, .int .u64 0, .string .empty] 27)).alloc (.cells #[.int .i64 (rows + rows'), .int .i64 (nulls + nulls'), .int .i64 lk, .int .u64 (ln : Int), .string ls, .int .i64 mk, .int .u64 (mn : Int), .string ms] 27)) (w.heap.size + 1 + 1 + 1) 27 #[.int .i64 (rows + rows'), .int .i64 (nulls + nulls'), .int .i64 lk, .int .u64 (ln : Int), .string ls, .int .i64 mk, .int .u64 (mn : Int), .string ms] from Blk.newAt (by simp))
  have HX0 := hid (show Ext w ((((w.alloc (.cells #[.int .i64 rows, .int .i64 nulls, .int .i64 lk, .int .u64 (ln : Int), .string ls, .int .i64 mk, .int .u64 (mn : Int), .string ms] 27)).alloc (.cells #[.int .i64 rows', .int .i64 nulls', .int .i64 lk', .int .u64 (ln' : Int), .string ls', .int .i64 mk', .int .u64 (mn' : Int), .string ms'] 27)).alloc (.cells #[.int .i64 0, .int .i64 0, .int .i64 0, .int .u64 0, .string .empty, .int .i64 0, .int .u64 0, .string .empty] 27)).alloc (.cells #[.int .i64 (rows + rows'), .int .i64 (nulls + nulls'), .int .i64 lk, .int .u64 (ln : Int), .string ls, .int .i64 mk, .int .u64 (mn : Int), .string ms] 27)) from Ext.new (Ext.new (Ext.new (Ext.new (ext_refl w) _) _) _) _)
  by_cases h0 : lk = 0
  · have HRL := hid (show R = (rows + rows', nulls + nulls', (lk', ln', ls'), if L2 then (mk', mn', ms') else (mk, mn, ms)) by rw [HR.out, if_pos (.inl h0)])
    subst h0
    clear HR HL1
    clear HB1 HB2 HB4 HB5 HX0
    have HB1 := hid (show Blk ((((w.alloc (.cells #[.int .i64 rows, .int .i64 nulls, .int .i64 0, .int .u64 (ln : Int), .string ls, .int .i64 mk, .int .u64 (mn : Int), .string ms] 27)).alloc (.cells #[.int .i64 rows', .int .i64 nulls', .int .i64 lk', .int .u64 (ln' : Int), .string ls', .int .i64 mk', .int .u64 (mn' : Int), .string ms'] 27)).alloc (.cells #[.int .i64 0, .int .i64 0, .int .i64 0, .int .u64 0, .string .empty, .int .i64 0, .int .u64 0, .string .empty] 27)).alloc (.cells #[.int .i64 (rows + rows'), .int .i64 (nulls + nulls'), .int .i64 lk', .int .u64 (ln' : Int), .string ls', .int .i64 mk, .int .u64 (mn : Int), .string ms] 27)) w.heap.size 27 #[.int .i64 rows, .int .i64 nulls, .int .i64 0, .int .u64 (ln : Int), .string ls, .int .i64 mk, .int .u64 (mn : Int), .string ms] from (((Blk.new w _ _).alloc _).alloc _).alloc _)
    have HB2 := hid (show Blk ((((w.alloc (.cells #[.int .i64 rows, .int .i64 nulls, .int .i64 0, .int .u64 (ln : Int), .string ls, .int .i64 mk, .int .u64 (mn : Int), .string ms] 27)).alloc (.cells #[.int .i64 rows', .int .i64 nulls', .int .i64 lk', .int .u64 (ln' : Int), .string ls', .int .i64 mk', .int .u64 (mn' : Int), .string ms'] 27)).alloc (.cells #[.int .i64 0, .int .i64 0, .int .i64 0, .int .u64 0, .string .empty, .int .i64 0, .int .u64 0, .string .empty] 27)).alloc (.cells #[.int .i64 (rows + rows'), .int .i64 (nulls + nulls'), .int .i64 lk', .int .u64 (ln' : Int), .string ls', .int .i64 mk, .int .u64 (mn : Int), .string ms] 27)) (w.heap.size + 1) 27 #[.int .i64 rows', .int .i64 nulls', .int .i64 lk', .int .u64 (ln' : Int), .string ls', .int .i64 mk', .int .u64 (mn' : Int), .string ms'] from ((Blk.newAt (by simp)).alloc _).alloc _)
    have HB4 := hid (show Blk ((((w.alloc (.cells #[.int .i64 rows, .int .i64 nulls, .int .i64 0, .int .u64 (ln : Int), .string ls, .int .i64 mk, .int .u64 (mn : Int), .string ms] 27)).alloc (.cells #[.int .i64 rows', .int .i64 nulls', .int .i64 lk', .int .u64 (ln' : Int), .string ls', .int .i64 mk', .int .u64 (mn' : Int), .string ms'] 27)).alloc (.cells #[.int .i64 0, .int .i64 0, .int .i64 0, .int .u64 0, .string .empty, .int .i64 0, .int .u64 0, .string .empty] 27)).alloc (.cells #[.int .i64 (rows + rows'), .int .i64 (nulls + nulls'), .int .i64 lk', .int .u64 (ln' : Int), .string ls', .int .i64 mk, .int .u64 (mn : Int), .string ms] 27)) (w.heap.size + 1 + 1) 27 #[.int .i64 0, .int .i64 0, .int .i64 0, .int .u64 0, .string .empty, .int .i64 0, .int .u64 0, .string .empty] from (Blk.newAt (by simp)).alloc _)
    have HB5 := hid (show Blk ((((w.alloc (.cells #[.int .i64 rows, .int .i64 nulls, .int .i64 0, .int .u64 (ln : Int), .string ls, .int .i64 mk, .int .u64 (mn : Int), .string ms] 27)).alloc (.cells #[.int .i64 rows', .int .i64 nulls', .int .i64 lk', .int .u64 (ln' : Int), .string ls', .int .i64 mk', .int .u64 (mn' : Int), .string ms'] 27)).alloc (.cells #[.int .i64 0, .int .i64 0, .int .i64 0, .int .u64 0, .string .empty, .int .i64 0, .int .u64 0, .string .empty] 27)).alloc (.cells #[.int .i64 (rows + rows'), .int .i64 (nulls + nulls'), .int .i64 lk', .int .u64 (ln' : Int), .string ls', .int .i64 mk, .int .u64 (mn : Int), .string ms] 27)) (w.heap.size + 1 + 1 + 1) 27 #[.int .i64 (rows + rows'), .int .i64 (nulls + nulls'), .int .i64 lk', .int .u64 (ln' : Int), .string ls', .int .i64 mk, .int .u64 (mn : Int), .string ms] from Blk.newAt (by simp))
    have HX0 := hid (show Ext w ((((w.alloc (.cells #[.int .i64 rows, .int .i64 nulls, .int .i64 0, .int .u64 (ln : Int), .string ls, .int .i64 mk, .int .u64 (mn : Int), .string ms] 27)).alloc (.cells #[.int .i64 rows', .int .i64 nulls', .int .i64 lk', .int .u64 (ln' : Int), .string ls', .int .i64 mk', .int .u64 (mn' : Int), .string ms'] 27)).alloc (.cells #[.int .i64 0, .int .i64 0, .int .i64 0, .int .u64 0, .string .empty, .int .i64 0, .int .u64 0, .string .empty] 27)).alloc (.cells #[.int .i64 (rows + rows'), .int .i64 (nulls + nulls'), .int .i64 lk', .int .u64 (ln' : Int), .string ls', .int .i64 mk, .int .u64 (mn : Int), .string ms] 27)) from Ext.new (Ext.new (Ext.new (Ext.new (ext_refl w) _) _) _) _)
    go_enter Try.func39, Try.ntmps39
    go_wp2_with fail
    refine (HL2.out _).mono ?_
    rintro e w7 ⟨rfl, hx⟩
    replace HB1 := hid (HB1.out.keep hx)
    replace HB2 := hid (HB2.out.keep hx)
    replace HB4 := hid (HB4.out.keep hx)
    replace HB5 := hid (HB5.out.keep hx)
    replace HX0 := hid (HX0.out.then hx)
    clear hx
    obtain ⟨⟨p0, p1, p2, p3⟩, p4, p5, p6, p7⟩ := HB1.out.c8
    obtain ⟨⟨q0, q1, q2, q3⟩, q4, q5, q6, q7⟩ := HB2.out.c8
    cases L2 with
    | true =>
      have HE := hid (show R = (rows + rows', nulls + nulls', (lk', ln', ls'), (mk', mn', ms')) by rw [HRL.out]; rfl)
      go_wp2_with (first
        | (with_reducible (show wpList _ _ _ (⟨none, .store 25 (.tmp 48) (.tmp 47), _, _, _, _⟩ :: _) _ _); go_loud (refine wpList_store_part rfl 25 (.tmp 48) (.tmp 47) rfl (w.heap.size + 1 + 1 + 1) 5 #[.int .i64 mk', .int .u64 (mn' : Int), .string ms'] #[.int .i64 (rows + rows'), .int .i64 (nulls + nulls'), .int .i64 lk', .int .u64 (ln' : Int), .string ls', .int .i64 mk', .int .u64 (mn' : Int), .string ms'] rfl rfl 27 _ HB5.out (by kernel_rfl) (by simp) (by simp [Value.oneCell']) (by simp) w.heap.size (by omega) ?_; intro w8 hB6 hF6 hL6; replace HB5 := hid hB6; replace HB1 := hid (hF6 _ _ _ (by omega) HB1.out); replace HB2 := hid (hF6 _ _ _ (by omega) HB2.out); replace HB4 := hid (hF6 _ _ _ (by omega) HB4.out); replace HX0 : Hid (Ext w w8) := hid (HX0.out.trans hL6); clear hB6 hF6 hL6; clear p0 p1 p2 p3 p4 p5 p6 p7 q0 q1 q2 q3 q4 q5 q6 q7; obtain ⟨⟨p0, p1, p2, p3⟩, p4, p5, p6, p7⟩ := HB1.out.c8; obtain ⟨⟨q0, q1, q2, q3⟩, q4, q5, q6, q7⟩ := HB2.out.c8; obtain ⟨⟨r0, r1, r2, r3⟩, r4, r5, r6, r7⟩ := HB5.out.c8))
        | (with_reducible (show wpList _ _ _ (⟨none, .store 27 (.tmp 4) (.tmp 49), _, _, _, _⟩ :: _) _ _); go_loud (refine wpList_store_blk rfl 27 (.tmp 4) (.tmp 49) rfl (w.heap.size + 1 + 1) #[.int .i64 (rows + rows'), .int .i64 (nulls + nulls'), .int .i64 lk', .int .u64 (ln' : Int), .string ls', .int .i64 mk', .int .u64 (mn' : Int), .string ms'] rfl rfl 27 _ HB4.out (by kernel_rfl) rfl (by simp [Value.oneCell']) w.heap.size (by omega) ?_; intro w9 hB9 hF9 hL9; have HB9 := hid hB9; have X9 : Hid (Ext w w9) := hid (HX0.out.trans hL9); clear hB9 hF9 hL9)))
      refine bodyPost_ret (results_blk rfl _ _ (w.heap.size + 1 + 1) 27 _ _ rfl HB9.out Try.underlying27 rfl (by kernel_rfl)) rfl ?_
      exact ⟨by rw [HE.out] <;> rfl, X9.out⟩
    | false =>
      have HE := hid (show R = (rows + rows', nulls + nulls', (lk', ln', ls'), (mk, mn, ms)) by rw [HRL.out]; rfl)
      obtain ⟨⟨r0, r1, r2, r3⟩, r4, r5, r6, r7⟩ := HB5.out.c8
      go_wp2_with (with_reducible (show wpList _ _ _ (⟨none, .store 27 (.tmp 4) (.tmp 49), _, _, _, _⟩ :: _) _ _); go_loud (refine wpList_store_blk rfl 27 (.tmp 4) (.tmp 49) rfl (w.heap.size + 1 + 1) #[.int .i64 (rows + rows'), .int .i64 (nulls + nulls'), .int .i64 lk', .int .u64 (ln' : Int), .string ls', .int .i64 mk, .int .u64 (mn : Int), .string ms] rfl rfl 27 _ HB4.out (by kernel_rfl) rfl (by simp [Value.oneCell']) w.heap.size (by omega) ?_; intro w9 hB9 hF9 hL9; have HB9 := hid hB9; have X9 : Hid (Ext w w9) := hid (HX0.out.trans hL9); clear hB9 hF9 hL9))
      refine bodyPost_ret (results_blk rfl _ _ (w.heap.size + 1 + 1) 27 _ _ rfl HB9.out Try.underlying27 rfl (by kernel_rfl)) rfl ?_
      exact ⟨by rw [HE.out] <;> rfl, X9.out⟩
  · have e0 : (lk == 0) = false := by simpa using h0
    by_cases h5 : lk' = 0
    · have HRL := hid (show R = (rows + rows', nulls + nulls', (lk, ln, ls), if L2 then (mk', mn', ms') else (mk, mn, ms)) by rw [HR.out, if_neg (by rintro (h | ⟨h, _⟩); exact h0 h; exact h h5)])
      subst h5
      clear HR HL1 h0
      go_enter Try.func39, Try.ntmps39
      go_wp2_with fail
      refine (HL2.out _).mono ?_
      rintro e w7 ⟨rfl, hx⟩
      replace HB1 := hid (HB1.out.keep hx)
      replace HB2 := hid (HB2.out.keep hx)
      replace HB4 := hid (HB4.out.keep hx)
      replace HB5 := hid (HB5.out.keep hx)
      replace HX0 := hid (HX0.out.then hx)
      clear hx
      obtain ⟨⟨p0, p1, p2, p3⟩, p4, p5, p6, p7⟩ := HB1.out.c8
      obtain ⟨⟨q0, q1, q2, q3⟩, q4, q5, q6, q7⟩ := HB2.out.c8
      cases L2 with
      | true =>
        have HE := hid (show R = (rows + rows', nulls + nulls', (lk, ln, ls), (mk', mn', ms')) by rw [HRL.out]; rfl)
        go_wp2_with (first
          | (with_reducible (show wpList _ _ _ (⟨none, .store 25 (.tmp 48) (.tmp 47), _, _, _, _⟩ :: _) _ _); go_loud (refine wpList_store_part rfl 25 (.tmp 48) (.tmp 47) rfl (w.heap.size + 1 + 1 + 1) 5 #[.int .i64 mk', .int .u64 (mn' : Int), .string ms'] #[.int .i64 (rows + rows'), .int .i64 (nulls + nulls'), .int .i64 lk, .int .u64 (ln : Int), .string ls, .int .i64 mk', .int .u64 (mn' : Int), .string ms'] rfl rfl 27 _ HB5.out (by kernel_rfl) (by simp) (by simp [Value.oneCell']) (by simp) w.heap.size (by omega) ?_; intro w8 hB6 hF6 hL6; replace HB5 := hid hB6; replace HB1 := hid (hF6 _ _ _ (by omega) HB1.out); replace HB2 := hid (hF6 _ _ _ (by omega) HB2.out); replace HB4 := hid (hF6 _ _ _ (by omega) HB4.out); replace HX0 : Hid (Ext w w8) := hid (HX0.out.trans hL6); clear hB6 hF6 hL6; clear p0 p1 p2 p3 p4 p5 p6 p7 q0 q1 q2 q3 q4 q5 q6 q7; obtain ⟨⟨p0, p1, p2, p3⟩, p4, p5, p6, p7⟩ := HB1.out.c8; obtain ⟨⟨q0, q1, q2, q3⟩, q4, q5, q6, q7⟩ := HB2.out.c8; obtain ⟨⟨r0, r1, r2, r3⟩, r4, r5, r6, r7⟩ := HB5.out.c8))
          | (with_reducible (show wpList _ _ _ (⟨none, .store 27 (.tmp 4) (.tmp 49), _, _, _, _⟩ :: _) _ _); go_loud (refine wpList_store_blk rfl 27 (.tmp 4) (.tmp 49) rfl (w.heap.size + 1 + 1) #[.int .i64 (rows + rows'), .int .i64 (nulls + nulls'), .int .i64 lk, .int .u64 (ln : Int), .string ls, .int .i64 mk', .int .u64 (mn' : Int), .string ms'] rfl rfl 27 _ HB4.out (by kernel_rfl) rfl (by simp [Value.oneCell']) w.heap.size (by omega) ?_; intro w9 hB9 hF9 hL9; have HB9 := hid hB9; have X9 : Hid (Ext w w9) := hid (HX0.out.trans hL9); clear hB9 hF9 hL9)))
        refine bodyPost_ret (results_blk rfl _ _ (w.heap.size + 1 + 1) 27 _ _ rfl HB9.out Try.underlying27 rfl (by kernel_rfl)) rfl ?_
        exact ⟨by rw [HE.out] <;> rfl, X9.out⟩
      | false =>
        have HE := hid (show R = (rows + rows', nulls + nulls', (lk, ln, ls), (mk, mn, ms)) by rw [HRL.out]; rfl)
        obtain ⟨⟨r0, r1, r2, r3⟩, r4, r5, r6, r7⟩ := HB5.out.c8
        go_wp2_with (with_reducible (show wpList _ _ _ (⟨none, .store 27 (.tmp 4) (.tmp 49), _, _, _, _⟩ :: _) _ _); go_loud (refine wpList_store_blk rfl 27 (.tmp 4) (.tmp 49) rfl (w.heap.size + 1 + 1) #[.int .i64 (rows + rows'), .int .i64 (nulls + nulls'), .int .i64 lk, .int .u64 (ln : Int), .string ls, .int .i64 mk, .int .u64 (mn : Int), .string ms] rfl rfl 27 _ HB4.out (by kernel_rfl) rfl (by simp [Value.oneCell']) w.heap.size (by omega) ?_; intro w9 hB9 hF9 hL9; have HB9 := hid hB9; have X9 : Hid (Ext w w9) := hid (HX0.out.trans hL9); clear hB9 hF9 hL9))
        refine bodyPost_ret (results_blk rfl _ _ (w.heap.size + 1 + 1) 27 _ _ rfl HB9.out Try.underlying27 rfl (by kernel_rfl)) rfl ?_
        exact ⟨by rw [HE.out] <;> rfl, X9.out⟩
    · have e5 : (lk' == 0) = false := by simpa using h5
      have e6 : (lk' != 0) = true := by simpa using h5
      cases L1 with
      | true =>
        have HRL := hid (show R = (rows + rows', nulls + nulls', (lk', ln', ls'), if L2 then (mk', mn', ms') else (mk, mn, ms)) by rw [HR.out, if_pos (.inr ⟨h5, rfl⟩)])
        clear HR h0 h5
        go_enter Try.func39, Try.ntmps39
        go_wp2_with fail
        refine (HL1.out _).mono ?_
        rintro e w4 ⟨rfl, hx⟩
        replace HB1 := hid (HB1.out.keep hx)
        replace HB2 := hid (HB2.out.keep hx)
        replace HB4 := hid (HB4.out.keep hx)
        replace HB5 := hid (HB5.out.keep hx)
        replace HX0 := hid (HX0.out.then hx)
        clear hx
        obtain ⟨⟨p0, p1, p2, p3⟩, p4, p5, p6, p7⟩ := HB1.out.c8
        obtain ⟨⟨q0, q1, q2, q3⟩, q4, q5, q6, q7⟩ := HB2.out.c8
        go_wp2_with (with_reducible (show wpList _ _ _ (⟨none, .store 25 (.tmp 40) (.tmp 39), _, _, _, _⟩ :: _) _ _); go_loud (refine wpList_store_part rfl 25 (.tmp 40) (.tmp 39) rfl (w.heap.size + 1 + 1 + 1) 2 #[.int .i64 lk', .int .u64 (ln' : Int), .string ls'] #[.int .i64 (rows + rows'), .int .i64 (nulls + nulls'), .int .i64 lk', .int .u64 (ln' : Int), .string ls', .int .i64 mk, .int .u64 (mn : Int), .string ms] rfl rfl 27 _ HB5.out (by kernel_rfl) (by simp) (by simp [Value.oneCell']) (by simp) w.heap.size (by omega) ?_; intro w5 hB6 hF6 hL6; replace HB5 := hid hB6; replace HB1 := hid (hF6 _ _ _ (by omega) HB1.out); replace HB2 := hid (hF6 _ _ _ (by omega) HB2.out); replace HB4 := hid (hF6 _ _ _ (by omega) HB4.out); replace HX0 : Hid (Ext w w5) := hid (HX0.out.trans hL6); clear hB6 hF6 hL6; clear p0 p1 p2 p3 p4 p5 p6 p7 q0 q1 q2 q3 q4 q5 q6 q7; obtain ⟨⟨p0, p1, p2, p3⟩, p4, p5, p6, p7⟩ := HB1.out.c8; obtain ⟨⟨q0, q1, q2, q3⟩, q4, q5, q6, q7⟩ := HB2.out.c8))
        refine (HL2.out _).mono ?_
        rintro e w7 ⟨rfl, hx⟩
        replace HB1 := hid (HB1.out.keep hx)
        replace HB2 := hid (HB2.out.keep hx)
        replace HB4 := hid (HB4.out.keep hx)
        replace HB5 := hid (HB5.out.keep hx)
        replace HX0 := hid (HX0.out.then hx)
        clear hx
        clear p0 p1 p2 p3 p4 p5 p6 p7 q0 q1 q2 q3 q4 q5 q6 q7
        obtain ⟨⟨p0, p1, p2, p3⟩, p4, p5, p6, p7⟩ := HB1.out.c8
        obtain ⟨⟨q0, q1, q2, q3⟩, q4, q5, q6, q7⟩ := HB2.out.c8
        cases L2 with
        | true =>
          have HE := hid (show R = (rows + rows', nulls + nulls', (lk', ln', ls'), (mk', mn', ms')) by rw [HRL.out]; rfl)
          go_wp2_with (first
            | (with_reducible (show wpList _ _ _ (⟨none, .store 25 (.tmp 48) (.tmp 47), _, _, _, _⟩ :: _) _ _); go_loud (refine wpList_store_part rfl 25 (.tmp 48) (.tmp 47) rfl (w.heap.size + 1 + 1 + 1) 5 #[.int .i64 mk', .int .u64 (mn' : Int), .string ms'] #[.int .i64 (rows + rows'), .int .i64 (nulls + nulls'), .int .i64 lk', .int .u64 (ln' : Int), .string ls', .int .i64 mk', .int .u64 (mn' : Int), .string ms'] rfl rfl 27 _ HB5.out (by kernel_rfl) (by simp) (by simp [Value.oneCell']) (by simp) w.heap.size (by omega) ?_; intro w8 hB6 hF6 hL6; replace HB5 := hid hB6; replace HB1 := hid (hF6 _ _ _ (by omega) HB1.out); replace HB2 := hid (hF6 _ _ _ (by omega) HB2.out); replace HB4 := hid (hF6 _ _ _ (by omega) HB4.out); replace HX0 : Hid (Ext w w8) := hid (HX0.out.trans hL6); clear hB6 hF6 hL6; clear p0 p1 p2 p3 p4 p5 p6 p7 q0 q1 q2 q3 q4 q5 q6 q7; obtain ⟨⟨p0, p1, p2, p3⟩, p4, p5, p6, p7⟩ := HB1.out.c8; obtain ⟨⟨q0, q1, q2, q3⟩, q4, q5, q6, q7⟩ := HB2.out.c8; obtain ⟨⟨r0, r1, r2, r3⟩, r4, r5, r6, r7⟩ := HB5.out.c8))
            | (with_reducible (show wpList _ _ _ (⟨none, .store 27 (.tmp 4) (.tmp 49), _, _, _, _⟩ :: _) _ _); go_loud (refine wpList_store_blk rfl 27 (.tmp 4) (.tmp 49) rfl (w.heap.size + 1 + 1) #[.int .i64 (rows + rows'), .int .i64 (nulls + nulls'), .int .i64 lk', .int .u64 (ln' : Int), .string ls', .int .i64 mk', .int .u64 (mn' : Int), .string ms'] rfl rfl 27 _ HB4.out (by kernel_rfl) rfl (by simp [Value.oneCell']) w.heap.size (by omega) ?_; intro w9 hB9 hF9 hL9; have HB9 := hid hB9; have X9 : Hid (Ext w w9) := hid (HX0.out.trans hL9); clear hB9 hF9 hL9)))
          refine bodyPost_ret (results_blk rfl _ _ (w.heap.size + 1 + 1) 27 _ _ rfl HB9.out Try.underlying27 rfl (by kernel_rfl)) rfl ?_
          exact ⟨by rw [HE.out] <;> rfl, X9.out⟩
        | false =>
          have HE := hid (show R = (rows + rows', nulls + nulls', (lk', ln', ls'), (mk, mn, ms)) by rw [HRL.out]; rfl)
          obtain ⟨⟨r0, r1, r2, r3⟩, r4, r5, r6, r7⟩ := HB5.out.c8
          go_wp2_with (with_reducible (show wpList _ _ _ (⟨none, .store 27 (.tmp 4) (.tmp 49), _, _, _, _⟩ :: _) _ _); go_loud (refine wpList_store_blk rfl 27 (.tmp 4) (.tmp 49) rfl (w.heap.size + 1 + 1) #[.int .i64 (rows + rows'), .int .i64 (nulls + nulls'), .int .i64 lk', .int .u64 (ln' : Int), .string ls', .int .i64 mk, .int .u64 (mn : Int), .string ms] rfl rfl 27 _ HB4.out (by kernel_rfl) rfl (by simp [Value.oneCell']) w.heap.size (by omega) ?_; intro w9 hB9 hF9 hL9; have HB9 := hid hB9; have X9 : Hid (Ext w w9) := hid (HX0.out.trans hL9); clear hB9 hF9 hL9))
          refine bodyPost_ret (results_blk rfl _ _ (w.heap.size + 1 + 1) 27 _ _ rfl HB9.out Try.underlying27 rfl (by kernel_rfl)) rfl ?_
          exact ⟨by rw [HE.out] <;> rfl, X9.out⟩
      | false =>
        have HRL := hid (show R = (rows + rows', nulls + nulls', (lk, ln, ls), if L2 then (mk', mn', ms') else (mk, mn, ms)) by rw [HR.out, if_neg (by rintro (h | ⟨_, h⟩); exact h0 h; cases h)])
        clear HR h0 h5
        go_enter Try.func39, Try.ntmps39
        go_wp2_with fail
        refine (HL1.out _).mono ?_
        rintro e w4 ⟨rfl, hx⟩
        replace HB1 := hid (HB1.out.keep hx)
        replace HB2 := hid (HB2.out.keep hx)
        replace HB4 := hid (HB4.out.keep hx)
        replace HB5 := hid (HB5.out.keep hx)
        replace HX0 := hid (HX0.out.then hx)
        clear hx
        obtain ⟨⟨p0, p1, p2, p3⟩, p4, p5, p6, p7⟩ := HB1.out.c8
        obtain ⟨⟨q0, q1, q2, q3⟩, q4, q5, q6, q7⟩ := HB2.out.c8
        go_wp2_with fail
        refine (HL2.out _).mono ?_
        rintro e w7 ⟨rfl, hx⟩
        replace HB1 := hid (HB1.out.keep hx)
        replace HB2 := hid (HB2.out.keep hx)
        replace HB4 := hid (HB4.out.keep hx)
        replace HB5 := hid (HB5.out.keep hx)
        replace HX0 := hid (HX0.out.then hx)
        clear hx
        clear p0 p1 p2 p3 p4 p5 p6 p7 q0 q1 q2 q3 q4 q5 q6 q7
        obtain ⟨⟨p0, p1, p2, p3⟩, p4, p5, p6, p7⟩ := HB1.out.c8
        obtain ⟨⟨q0, q1, q2, q3⟩, q4, q5, q6, q7⟩ := HB2.out.c8
        cases L2 with
        | true =>
          have HE := hid (show R = (rows + rows', nulls + nulls', (lk, ln, ls), (mk', mn', ms')) by rw [HRL.out]; rfl)
          go_wp2_with (first
            | (with_reducible (show wpList _ _ _ (⟨none, .store 25 (.tmp 48) (.tmp 47), _, _, _, _⟩ :: _) _ _); go_loud (refine wpList_store_part rfl 25 (.tmp 48) (.tmp 47) rfl (w.heap.size + 1 + 1 + 1) 5 #[.int .i64 mk', .int .u64 (mn' : Int), .string ms'] #[.int .i64 (rows + rows'), .int .i64 (nulls + nulls'), .int .i64 lk, .int .u64 (ln : Int), .string ls, .int .i64 mk', .int .u64 (mn' : Int), .string ms'] rfl rfl 27 _ HB5.out (by kernel_rfl) (by simp) (by simp [Value.oneCell']) (by simp) w.heap.size (by omega) ?_; intro w8 hB6 hF6 hL6; replace HB5 := hid hB6; replace HB1 := hid (hF6 _ _ _ (by omega) HB1.out); replace HB2 := hid (hF6 _ _ _ (by omega) HB2.out); replace HB4 := hid (hF6 _ _ _ (by omega) HB4.out); replace HX0 : Hid (Ext w w8) := hid (HX0.out.trans hL6); clear hB6 hF6 hL6; clear p0 p1 p2 p3 p4 p5 p6 p7 q0 q1 q2 q3 q4 q5 q6 q7; obtain ⟨⟨p0, p1, p2, p3⟩, p4, p5, p6, p7⟩ := HB1.out.c8; obtain ⟨⟨q0, q1, q2, q3⟩, q4, q5, q6, q7⟩ := HB2.out.c8; obtain ⟨⟨r0, r1, r2, r3⟩, r4, r5, r6, r7⟩ := HB5.out.c8))
            | (with_reducible (show wpList _ _ _ (⟨none, .store 27 (.tmp 4) (.tmp 49), _, _, _, _⟩ :: _) _ _); go_loud (refine wpList_store_blk rfl 27 (.tmp 4) (.tmp 49) rfl (w.heap.size + 1 + 1) #[.int .i64 (rows + rows'), .int .i64 (nulls + nulls'), .int .i64 lk, .int .u64 (ln : Int), .string ls, .int .i64 mk', .int .u64 (mn' : Int), .string ms'] rfl rfl 27 _ HB4.out (by kernel_rfl) rfl (by simp [Value.oneCell']) w.heap.size (by omega) ?_; intro w9 hB9 hF9 hL9; have HB9 := hid hB9; have X9 : Hid (Ext w w9) := hid (HX0.out.trans hL9); clear hB9 hF9 hL9)))
          refine bodyPost_ret (results_blk rfl _ _ (w.heap.size + 1 + 1) 27 _ _ rfl HB9.out Try.underlying27 rfl (by kernel_rfl)) rfl ?_
          exact ⟨by rw [HE.out] <;> rfl, X9.out⟩
        | false =>
          have HE := hid (show R = (rows + rows', nulls + nulls', (lk, ln, ls), (mk, mn, ms)) by rw [HRL.out]; rfl)
          obtain ⟨⟨r0, r1, r2, r3⟩, r4, r5, r6, r7⟩ := HB5.out.c8
          go_wp2_with (with_reducible (show wpList _ _ _ (⟨none, .store 27 (.tmp 4) (.tmp 49), _, _, _, _⟩ :: _) _ _); go_loud (refine wpList_store_blk rfl 27 (.tmp 4) (.tmp 49) rfl (w.heap.size + 1 + 1) #[.int .i64 (rows + rows'), .int .i64 (nulls + nulls'), .int .i64 lk, .int .u64 (ln : Int), .string ls, .int .i64 mk, .int .u64 (mn : Int), .string ms] rfl rfl 27 _ HB4.out (by kernel_rfl) rfl (by simp [Value.oneCell']) w.heap.size (by omega) ?_; intro w9 hB9 hF9 hL9; have HB9 := hid hB9; have X9 : Hid (Ext w w9) := hid (HX0.out.trans hL9); clear hB9 hF9 hL9))
          refine bodyPost_ret (results_blk rfl _ _ (w.heap.size + 1 + 1) 27 _ _ rfl HB9.out Try.underlying27 rfl (by kernel_rfl)) rfl ?_
          exact ⟨by rw [HE.out] <;> rfl, X9.out⟩
end Go.Proofs.Ytikdmnedbfpkeaa
