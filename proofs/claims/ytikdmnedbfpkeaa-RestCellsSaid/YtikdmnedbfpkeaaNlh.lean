/- NullsTell, NullsOrder: walks. -/
import Derived.Test.YtikdmnedbfpkeaaNlg
namespace Hy.Cel
/-- an order: what the law asks of three cells -/
theorem order3 (a b c : Cel) : ((less a b || less b a) == !decide (a = b)) = true ∧ (less a b && less b a) = false ∧ (less a b = true → less b c = true → less a c = true) := by
  refine ⟨?_, ?_, fun h1 h2 => less_trans a b c h1 h2⟩
  · by_cases h : a = b
    · subst h; rw [less_irrefl]; simp
    · rcases less_total a b h with h1 | h1 <;> simp [h1, h]
  · cases h1 : less a b
    · rfl
    · cases h2 : less b a
      · rfl
      · have := less_trans a b a h1 h2
        rw [less_irrefl] at this; cases this
end Hy.Cel
namespace Go.Proofs.Ytikdmnedbfpkeaa
open Go.RowKit Hy
set_option maxHeartbeats 2000000 in
theorem nullsTell_walk (kind : Int) (l : List Cel) (A : Option Addr) (n cap : Nat) (w : World) (hn : l.length = n) (hr : Rd w A (cls l)) (hnl : n ≤ 140737488355328) :
    Calls Try.prog 8 #[.int .i64 kind, .slice A n cap] w fun e w' => e = .returned (.bool true) ∧ Ext w w' := by
  by_cases hj : Cel.cchk kind l = 0
  · have hn64 : n ≤ 64 := by rw [← hn]; exact (Cel.cchk_iff.1 hj).2.1
    have HS := hid (split_yes kind l A n cap w hn hr hj)
    have HC := hid (fun w' (hx : Ext w w') => cellsCheck_any kind l A n cap w' hn (hr.keep hx) hnl)
    have HK := hid (fun w' (hx : Ext w w') => check_any kind l A n cap w' hn (hr.keep hx) hnl)
    have HT := hid (fun w' (hx : Ext w w') => thereOf_any l A n cap w' hn (hr.keep hx) (by omega))
    have HD := hid (fun w' (hx : Ext w w') => denseOf_any l A n cap w' hn (hr.keep hx) (by omega))
    have HSM := hid (fun w' B B' c c' (h1 : Rd w' B (bls (thereL l))) (h2 : Rd w' B' (bls (thereL l))) => sameMarks_any (thereL l) (thereL l) B B' n n c c' w' ((thereL_len l).trans hn) ((thereL_len l).trans hn) h1 h2 hnl)
    have hdl : (Cel.dense l).length ≤ n := by rw [← hn]; exact Cel.dense_len l
    have HSC := hid (fun w' B B' c c' (h1 : Rd w' B (cls (Cel.dense l))) (h2 : Rd w' B' (cls (Cel.dense l))) => sameCells_any (Cel.dense l) (Cel.dense l) B B' _ _ c c' w' rfl rfl h1 h2 (by omega))
    simp only [decide_true] at HSM HSC
    rw [hj] at HC HK
    generalize Cel.dense l = D at *
    generalize thereL l = M at *
    clear hn hr hj hdl
    go_enter Try.func8, Try.ntmps8
    go_wp2_with fail
    refine Calls.mono HS.out ?_
    rintro e w1 ⟨C, c, E, d, rfl, h1, h2, h3, h4, hx⟩
    have X := hid hx; have RM := hid h1; have RD := hid h2
    clear hx h1 h2 h3 h4
    go_wp2_with fail
    refine Calls.mono (HC.out _ X.out) ?_
    rintro e w2 ⟨rfl, hx⟩
    replace X := hid (X.out.then hx)
    replace RM := hid (RM.out.keep hx)
    replace RD := hid (RD.out.keep hx)
    clear hx
    go_wp2_with fail
    refine Calls.mono (nullsBegun_any _) ?_
    rintro e w3 ⟨rfl, hx⟩
    replace X := hid (X.out.then hx)
    replace RM := hid (RM.out.keep hx)
    replace RD := hid (RD.out.keep hx)
    clear hx
    go_wp2_with fail
    refine Calls.mono (HK.out _ X.out) ?_
    rintro e w4 ⟨rfl, hx⟩
    replace X := hid (X.out.then hx)
    replace RM := hid (RM.out.keep hx)
    replace RD := hid (RD.out.keep hx)
    clear hx
    go_wp2_with fail
    refine Calls.mono (HT.out _ X.out) ?_
    rintro e w5 ⟨B, b, rfl, h1, hx⟩
    replace X := hid (X.out.then hx)
    replace RM := hid (RM.out.keep hx)
    replace RD := hid (RD.out.keep hx)
    have RT := hid h1
    clear hx h1
    go_wp2_with fail
    refine Calls.mono (HSM.out _ _ _ _ _ RM.out RT.out) ?_
    rintro e w6 ⟨rfl, hx⟩
    replace X := hid (X.out.then hx)
    replace RD := hid (RD.out.keep hx)
    clear hx
    go_wp2_with fail
    refine Calls.mono (HD.out _ X.out) ?_
    rintro e w7 ⟨B2, b2, rfl, h1, hx⟩
    replace X := hid (X.out.then hx)
    replace RD := hid (RD.out.keep hx)
    have RE := hid h1
    clear hx h1
    go_wp2_with fail
    refine Calls.mono (HSC.out _ _ _ _ _ RD.out RE.out) ?_
    rintro e w8 ⟨rfl, hx⟩
    replace X := hid (X.out.then hx)
    clear hx
    go_wp2
    go_returns
    exact ⟨rfl, X.out⟩
  · obtain ⟨c, hc⟩ : ∃ c, c = Cel.cchk kind l := ⟨_, rfl⟩
    have HK := hid (fun w' (hx : Ext w w') => check_any kind l A n cap w' hn (hr.keep hx) hnl)
    have HC := hid (fun w' (hx : Ext w w') => cellsCheck_any kind l A n cap w' hn (hr.keep hx) hnl)
    rw [← hc] at HK HC hj
    have e2 : ((c : Int) != 0) = true := by rw [bne_iff_ne]; omega
    have HS := hid (split_no kind A n cap c w e2 (hid (HK.out w (ext_refl w))))
    clear hn hr hj hc hnl
    go_enter Try.func8, Try.ntmps8
    go_wp2_with fail
    refine Calls.mono HS.out ?_
    rintro e w1 ⟨rfl, hx⟩
    have X := hid hx
    clear hx
    go_wp2_with fail
    refine Calls.mono (HC.out _ X.out) ?_
    rintro e w2 ⟨rfl, hx⟩
    replace X := hid (X.out.then hx)
    clear hx
    go_wp2_with fail
    refine Calls.mono (nullsBegun_any _) ?_
    rintro e w3 ⟨rfl, hx⟩
    replace X := hid (X.out.then hx)
    clear hx
    go_wp2_with fail
    refine Calls.mono (HK.out _ X.out) ?_
    rintro e w4 ⟨rfl, hx⟩
    replace X := hid (X.out.then hx)
    clear hx
    go_wp2
    go_returns
    exact ⟨rfl, X.out⟩
set_option maxHeartbeats 4000000 in
set_option maxRecDepth 100000 in
theorem nullsOrder_any (a b c : Cel) (x y z v u : Bool) (w : World)
    (GL : Gives Try.prog 21 #[celV a, celV b] (.bool x)) (GM : Gives Try.prog 21 #[celV b, celV c] (.bool y)) (GN : Gives Try.prog 21 #[celV a, celV c] (.bool z))
    (GV : Gives Try.prog 21 #[celV b, celV a] (.bool v)) (GC : Gives Try.prog 32 #[celV a, celV b] (.bool x))
    (hq : ∀ w, (binOp .neq 25 (celV a) (celV b)).run Try.prog w = .ok (.bool u) w) (h1 : ((x || v) == u) = true) (h2 : (x && v) = false) (h3 : x = true → y = true → z = true) :
    Calls Try.prog 11 #[celV a, celV b, celV c] w fun e w' => e = .returned (.bool true) ∧ Ext w w' := by
  have GB : Gives Try.prog 23 #[] (.bool true) := fun w => nullsBegun_any w
  obtain ⟨ak, an, asx⟩ := a
  obtain ⟨bk, bn, bs⟩ := b
  obtain ⟨ck, cn, cs⟩ := c
  dsimp only [celV] at *
  have X := hid ((((ext_refl w).new (.cells #[.int .i64 ak, .int .u64 (an : Nat), .string asx] 25)).new (.cells #[.int .i64 bk, .int .u64 (bn : Nat), .string bs] 25)).new (.cells #[.int .i64 ck, .int .u64 (cn : Nat), .string cs] 25))
  have Ba := hid (((Blk.new w 25 #[.int .i64 ak, .int .u64 (an : Nat), .string asx]).alloc (.cells #[.int .i64 bk, .int .u64 (bn : Nat), .string bs] 25)).alloc (.cells #[.int .i64 ck, .int .u64 (cn : Nat), .string cs] 25))
  have Bb := hid ((Blk.newAt (w := w.alloc (.cells #[.int .i64 ak, .int .u64 (an : Nat), .string asx] 25)) (g := w.heap.size + 1) (t := 25) (cs := #[.int .i64 bk, .int .u64 (bn : Nat), .string bs]) (by simp)).alloc (.cells #[.int .i64 ck, .int .u64 (cn : Nat), .string cs] 25))
  have Bc := hid (Blk.newAt (w := (w.alloc (.cells #[.int .i64 ak, .int .u64 (an : Nat), .string asx] 25)).alloc (.cells #[.int .i64 bk, .int .u64 (bn : Nat), .string bs] 25)) (g := w.heap.size + 1 + 1) (t := 25) (cs := #[.int .i64 ck, .int .u64 (cn : Nat), .string cs]) (by simp))
  go_enter Try.func11, Try.ntmps11
  obtain ⟨p0, p1, p2⟩ := Ba.out.c3
  obtain ⟨q0, q1, q2⟩ := Bb.out.c3
  obtain ⟨r0, r1, r2⟩ := Bc.out.c3
  have p0r := cell_regrown p0
  have p1r := cell_regrown p1
  have p2r := cell_regrown p2
  have q0r := cell_regrown q0
  have q1r := cell_regrown q1
  have q2r := cell_regrown q2
  have r0r := cell_regrown r0
  have r1r := cell_regrown r1
  have r2r := cell_regrown r2
  go_wp2_with fail
  refine wp_region_quiet_below (by kernel_rfl) (by kernel_rfl) ?_
  repeat (go_big_quiet_step ((go_at_call 21; first | with_reducible exact GL.quiet _ _ _ | with_reducible exact GM.quiet _ _ _ | with_reducible exact GN.quiet _ _ _)))
  refine wpQuiet_nil ?_
  intro w5 hw5
  have hx := (show Ext _ w5 from by obtain ⟨p, rfl⟩ := hw5; exact ext_regrown _ p)
  replace X := hid (X.out.then hx)
  replace Ba := hid (Ba.out.keep hx)
  replace Bb := hid (Bb.out.keep hx)
  clear hx hw5 p0 p0r p1 p1r p2 p2r q0 q0r q1 q1r q2 q2r r0 r0r r1 r1r r2 r2r Bc
  obtain ⟨p0, p1, p2⟩ := Ba.out.c3
  obtain ⟨q0, q1, q2⟩ := Bb.out.c3
  have p0r := cell_regrown p0
  have p1r := cell_regrown p1
  have p2r := cell_regrown p2
  have q0r := cell_regrown q0
  have q1r := cell_regrown q1
  have q2r := cell_regrown q2
  cases x <;> cases v <;> cases u <;> (first | exact absurd h1 (by decide) | exact absurd h2 (by decide) | skip)
  all_goals (cases y)
  all_goals (try (obtain rfl := h3 rfl rfl))
  all_goals clear h1 h2 h3
  all_goals
    go_wp2_with fail
    refine wp_region_quiet_below (by kernel_rfl) (by kernel_rfl) ?_
    repeat (go_big_quiet_step (first
      | (go_at_call 21; first | with_reducible exact GL.quiet _ _ _ | with_reducible exact GV.quiet _ _ _)
      | (go_at_call 32; with_reducible exact GC.quiet _ _ _)
      | (go_at_call 23; with_reducible exact GB.quiet _ _ _)))
    refine wpQuiet_nil ?_
    intro w6 hw6
    have hx := (show Ext _ w6 from by obtain ⟨p, rfl⟩ := hw6; exact ext_regrown _ p)
    replace X := hid (X.out.then hx)
    clear hx hw6 p0 p0r p1 p1r p2 p2r q0 q0r q1 q1r q2 q2r
    go_wp2
    go_returns
    exact ⟨rfl, X.out⟩
theorem nullsOrder_walk (a b c : Cel) (w : World) (ha : a.2.2.size ≤ 140737488355328) (hb : b.2.2.size ≤ 140737488355328) :
    Calls Try.prog 11 #[celV a, celV b, celV c] w fun e w' => e = .returned (.bool true) ∧ Ext w w' := by
  obtain ⟨h1, h2, h3⟩ := Cel.order3 a b c
  exact nullsOrder_any a b c _ _ _ _ _ w (less_any a b) (less_any b c) (less_any a c) (less_any b a) (fun w => cellLess_any a b w ha hb) (fun w => cel_neq a.1 b.1 a.2.1 b.2.1 a.2.2 b.2.2 w) h1 h2 h3
end Go.Proofs.Ytikdmnedbfpkeaa
