/- Stats: Add: walk. -/
import Derived.Test.YtpheegfanljeeaaSta
namespace Hy
open Go
/-- what is known of a column: rows, nulls, the least, the most -/
abbrev Sta := Int × Int × Cel × Cel
abbrev staV (s : Sta) : Value := .agg #[.int .i64 s.1, .int .i64 s.2.1, .int .i64 s.2.2.1.1, .int .u64 (s.2.2.1.2.1 : Nat), .string s.2.2.1.2.2, .int .i64 s.2.2.2.1, .int .u64 (s.2.2.2.2.1 : Nat), .string s.2.2.2.2.2]
theorem Blk.c8 {w : World} {g : Nat} {t : TypeId} {a b c d e f h i : Value} (B : Blk w g t #[a, b, c, d, e, f, h, i]) :
    (w.cell? ⟨g, 0, none⟩ = some a ∧ w.cell? ⟨g, 1, none⟩ = some b ∧ w.cell? ⟨g, 2, none⟩ = some c ∧ w.cell? ⟨g, 3, none⟩ = some d) ∧ w.cell? ⟨g, 4, none⟩ = some e ∧ w.cell? ⟨g, 5, none⟩ = some f ∧ w.cell? ⟨g, 6, none⟩ = some h ∧ w.cell? ⟨g, 7, none⟩ = some i :=
  ⟨⟨B.cell 0, B.cell 1, B.cell 2, B.cell 3⟩, B.cell 4, B.cell 5, B.cell 6, B.cell 7⟩
theorem Blk.c3 {w : World} {g : Nat} {t : TypeId} {a b c : Value} (B : Blk w g t #[a, b, c]) : w.cell? ⟨g, 0, none⟩ = some a ∧ w.cell? ⟨g, 1, none⟩ = some b ∧ w.cell? ⟨g, 2, none⟩ = some c := ⟨B.cell 0, B.cell 1, B.cell 2⟩
namespace Cel
@[irreducible] def addS (s : Sta) (c : Cel) : Sta :=
  if c.1 = 0 then (s.1 + 1, s.2.1 + 1, s.2.2) else if s.2.2.1.1 = 0 then (s.1 + 1, s.2.1, c, c) else if less c s.2.2.1 then (s.1 + 1, s.2.1, c, s.2.2.2) else if less s.2.2.2 c then (s.1 + 1, s.2.1, s.2.2.1, c) else (s.1 + 1, s.2.1, s.2.2.1, s.2.2.2)
end Cel
end Hy
namespace Go.Proofs.Ytpheegfanljeeaa
open Go.RowKit Hy
set_option maxHeartbeats 1600000 in
theorem add_any (s : Sta) (c : Cel) (w : World) (h1 : 0 ≤ s.1) (h2 : s.1 ≤ 1000) (h3 : 0 ≤ s.2.1) (h4 : s.2.1 ≤ 1000) :
    Calls Try.prog 84 #[staV s, celV c] w fun e w' => e = .returned (staV (Cel.addS s c)) ∧ Ext w w' := by
  have HL1 := hid (less_any c s.2.2.1)
  have HL2 := hid (less_any s.2.2.2 c)
  obtain ⟨R, hR⟩ : ∃ R, R = Cel.addS s c := ⟨_, rfl⟩
  rw [← hR]
  have HR := hid (show R = if c.1 = 0 then (s.1 + 1, s.2.1 + 1, s.2.2) else if s.2.2.1.1 = 0 then (s.1 + 1, s.2.1, c, c) else if Cel.less c s.2.2.1 then (s.1 + 1, s.2.1, c, s.2.2.2) else if Cel.less s.2.2.2 c then (s.1 + 1, s.2.1, s.2.2.1, c) else (s.1 + 1, s.2.1, s.2.2.1, s.2.2.2) by rw [hR]; unfold Cel.addS; rfl)
  clear hR
  obtain ⟨rows, nulls, ⟨lk, ln, ls⟩, ⟨mk, mn, ms⟩⟩ := s
  obtain ⟨k, n, t⟩ := c
  simp only at h1 h2 h3 h4 HR HL1 HL2
  by_cases h0 : k = 0
  · subst h0
    have HE := hid (show R = _ by rw [HR.out, if_pos rfl])
    clear HR HL1 HL2
    go_enter Try.func84, Try.ntmps84
    go_wp2
    go_returns
    exact ⟨by rw [HE.out], Ext.new (Ext.new (Ext.new (ext_refl w) _) _) _⟩
  · have e0 : (k == 0) = false := by simpa using h0
    by_cases hl : lk = 0
    · subst hl
      have HE := hid (show R = _ by rw [HR.out, if_neg h0, if_pos rfl])
      clear HR HL1 HL2 h0
      go_enter Try.func84, Try.ntmps84
      go_wp2_with fail
      go_region
      all_goals (
        go_wp2
        go_returns
        refine ⟨by rw [HE.out], ?_⟩
        exact (Ext.new (Ext.new (Ext.new (ext_refl w) _) _) _).draw)
    · have el : (lk == 0) = false := by simpa using hl
      have HB1 := hid (show Blk (((w.alloc (.cells #[.int .i64 (rows + 1), .int .i64 nulls, .int .i64 lk, .int .u64 (ln : Int), .string ls, .int .i64 mk, .int .u64 (mn : Int), .string ms] 45)).alloc (.cells #[.int .i64 k, .int .u64 (n : Int), .string t] 37)).alloc (.cells #[.int .i64 0, .int .i64 0, .int .i64 0, .int .u64 0, .string .empty, .int .i64 0, .int .u64 0, .string .empty] 45)) w.heap.size 45 _ from ((Blk.new w _ _).alloc _).alloc _)
      have HB2 := hid (show Blk (((w.alloc (.cells #[.int .i64 (rows + 1), .int .i64 nulls, .int .i64 lk, .int .u64 (ln : Int), .string ls, .int .i64 mk, .int .u64 (mn : Int), .string ms] 45)).alloc (.cells #[.int .i64 k, .int .u64 (n : Int), .string t] 37)).alloc (.cells #[.int .i64 0, .int .i64 0, .int .i64 0, .int .u64 0, .string .empty, .int .i64 0, .int .u64 0, .string .empty] 45)) (w.heap.size + 1) 37 _ from (Blk.newAt (by simp)).alloc _)
      have HB3 := hid (show Blk (((w.alloc (.cells #[.int .i64 (rows + 1), .int .i64 nulls, .int .i64 lk, .int .u64 (ln : Int), .string ls, .int .i64 mk, .int .u64 (mn : Int), .string ms] 45)).alloc (.cells #[.int .i64 k, .int .u64 (n : Int), .string t] 37)).alloc (.cells #[.int .i64 0, .int .i64 0, .int .i64 0, .int .u64 0, .string .empty, .int .i64 0, .int .u64 0, .string .empty] 45)) (w.heap.size + 1 + 1) 45 _ from Blk.newAt (by simp))
      have HX0 := hid (Ext.new (Ext.new (Ext.new (ext_refl w) (.cells #[.int .i64 (rows + 1), .int .i64 nulls, .int .i64 lk, .int .u64 (ln : Int), .string ls, .int .i64 mk, .int .u64 (mn : Int), .string ms] 45)) (.cells #[.int .i64 k, .int .u64 (n : Int), .string t] 37)) (.cells #[.int .i64 0, .int .i64 0, .int .i64 0, .int .u64 0, .string .empty, .int .i64 0, .int .u64 0, .string .empty] 45))
      cases hl1 : Cel.less (k, n, t) (lk, ln, ls) with
      | true =>
        have HE := hid (show R = _ by rw [HR.out, if_neg h0, if_neg hl, if_pos hl1])
        rw [hl1] at HL1
        clear HR HL2 h0 hl hl1
        go_enter Try.func84, Try.ntmps84
        go_wp2_with fail
        refine (HL1.out _).mono ?_
        rintro e w5 ⟨rfl, hx⟩
        replace HB1 := hid (HB1.out.keep hx)
        replace HB2 := hid (HB2.out.keep hx)
        replace HB3 := hid (HB3.out.keep hx)
        obtain ⟨⟨p0, p1, p2, p3⟩, p4, p5, p6, p7⟩ := HB1.out.c8
        have f1 := HB1.out.frozen
        obtain ⟨q0, q1, q2⟩ := HB2.out.c3
        obtain ⟨⟨r0, r1, r2, r3⟩, r4, r5, r6, r7⟩ := HB3.out.c8
        have f3 := HB3.out.frozen
        replace HX0 := hid (HX0.out.then hx)
        clear hx
        go_wp2
        have hne : w.heap.size + 1 + 1 ≠ w.heap.size := by omega
        refine bodyPost_ret (results_cell_row rfl _ _ (w.heap.size + 1 + 1) 45 _ (0, 0) _ rfl (((((((((((HB3.out.far (p := ⟨w.heap.size, 2, none⟩) hne _).far (p := ⟨w.heap.size, 3, none⟩) hne _).far (p := ⟨w.heap.size, 4, none⟩) hne _)).set 0 _).set 1 _).set 2 _).set 3 _).set 4 _).set 5 _).set 6 _ |>.set 7 _) Try.underlying45 rfl (by kernel_rfl)) rfl ?_
        exact ⟨by rw [HE.out]; rfl, (((((((((((HX0.out.put (p := ⟨w.heap.size, 2, none⟩) (Nat.le_refl _) _).put (p := ⟨w.heap.size, 3, none⟩) (Nat.le_refl _) _).put (p := ⟨w.heap.size, 4, none⟩) (Nat.le_refl _) _).put (p := ⟨w.heap.size + 1 + 1, 0, none⟩) (by show w.heap.size ≤ w.heap.size + 1 + 1; omega) _).put (p := ⟨w.heap.size + 1 + 1, 1, none⟩) (by show w.heap.size ≤ w.heap.size + 1 + 1; omega) _).put (p := ⟨w.heap.size + 1 + 1, 2, none⟩) (by show w.heap.size ≤ w.heap.size + 1 + 1; omega) _).put (p := ⟨w.heap.size + 1 + 1, 3, none⟩) (by show w.heap.size ≤ w.heap.size + 1 + 1; omega) _).put (p := ⟨w.heap.size + 1 + 1, 4, none⟩) (by show w.heap.size ≤ w.heap.size + 1 + 1; omega) _).put (p := ⟨w.heap.size + 1 + 1, 5, none⟩) (by show w.heap.size ≤ w.heap.size + 1 + 1; omega) _).put (p := ⟨w.heap.size + 1 + 1, 6, none⟩) (by show w.heap.size ≤ w.heap.size + 1 + 1; omega) _).put (p := ⟨w.heap.size + 1 + 1, 7, none⟩) (by show w.heap.size ≤ w.heap.size + 1 + 1; omega) _)⟩
      | false =>
        rw [hl1] at HL1
        cases hl2 : Cel.less (mk, mn, ms) (k, n, t) with
        | true =>
          have HE := hid (show R = _ by rw [HR.out, if_neg h0, if_neg hl, if_neg (by rw [hl1]; simp), if_pos hl2])
          rw [hl2] at HL2
          clear HR h0 hl hl1 hl2
          go_enter Try.func84, Try.ntmps84
          go_wp2_with fail
          refine (HL1.out _).mono ?_
          rintro e w5 ⟨rfl, hx⟩
          replace HB1 := hid (HB1.out.keep hx)
          replace HB2 := hid (HB2.out.keep hx)
          replace HB3 := hid (HB3.out.keep hx)
          obtain ⟨⟨p0, p1, p2, p3⟩, p4, p5, p6, p7⟩ := HB1.out.c8
          have f1 := HB1.out.frozen
          obtain ⟨q0, q1, q2⟩ := HB2.out.c3
          obtain ⟨⟨r0, r1, r2, r3⟩, r4, r5, r6, r7⟩ := HB3.out.c8
          have f3 := HB3.out.frozen
          replace HX0 := hid (HX0.out.then hx)
          clear hx
          -- clear p0 p1 p2 p3 p4 p5 p6 p7 q0 q1 q2 r0 r1 r2 r3 r4 r5 r6 r7 f1 f3
          go_wp2_with fail
          clear p0 p1 p2 p3 p4 p5 p6 p7 q0 q1 q2 r0 r1 r2 r3 r4 r5 r6 r7 f1 f3
          refine (HL2.out _).mono ?_
          rintro e w6 ⟨rfl, hx⟩
          replace HB1 := hid (HB1.out.keep hx)
          replace HB2 := hid (HB2.out.keep hx)
          replace HB3 := hid (HB3.out.keep hx)
          obtain ⟨⟨p0, p1, p2, p3⟩, p4, p5, p6, p7⟩ := HB1.out.c8
          have f1 := HB1.out.frozen
          obtain ⟨q0, q1, q2⟩ := HB2.out.c3
          obtain ⟨⟨r0, r1, r2, r3⟩, r4, r5, r6, r7⟩ := HB3.out.c8
          have f3 := HB3.out.frozen
          replace HX0 := hid (HX0.out.then hx)
          clear hx
          go_wp2
          have hne : w.heap.size + 1 + 1 ≠ w.heap.size := by omega
          refine bodyPost_ret (results_cell_row rfl _ _ (w.heap.size + 1 + 1) 45 _ (0, 0) _ rfl (((((((((((HB3.out.far (p := ⟨w.heap.size, 5, none⟩) hne _).far (p := ⟨w.heap.size, 6, none⟩) hne _).far (p := ⟨w.heap.size, 7, none⟩) hne _)).set 0 _).set 1 _).set 2 _).set 3 _).set 4 _).set 5 _).set 6 _ |>.set 7 _) Try.underlying45 rfl (by kernel_rfl)) rfl ?_
          exact ⟨by rw [HE.out]; rfl, (((((((((((HX0.out.put (p := ⟨w.heap.size, 5, none⟩) (Nat.le_refl _) _).put (p := ⟨w.heap.size, 6, none⟩) (Nat.le_refl _) _).put (p := ⟨w.heap.size, 7, none⟩) (Nat.le_refl _) _).put (p := ⟨w.heap.size + 1 + 1, 0, none⟩) (by show w.heap.size ≤ w.heap.size + 1 + 1; omega) _).put (p := ⟨w.heap.size + 1 + 1, 1, none⟩) (by show w.heap.size ≤ w.heap.size + 1 + 1; omega) _).put (p := ⟨w.heap.size + 1 + 1, 2, none⟩) (by show w.heap.size ≤ w.heap.size + 1 + 1; omega) _).put (p := ⟨w.heap.size + 1 + 1, 3, none⟩) (by show w.heap.size ≤ w.heap.size + 1 + 1; omega) _).put (p := ⟨w.heap.size + 1 + 1, 4, none⟩) (by show w.heap.size ≤ w.heap.size + 1 + 1; omega) _).put (p := ⟨w.heap.size + 1 + 1, 5, none⟩) (by show w.heap.size ≤ w.heap.size + 1 + 1; omega) _).put (p := ⟨w.heap.size + 1 + 1, 6, none⟩) (by show w.heap.size ≤ w.heap.size + 1 + 1; omega) _).put (p := ⟨w.heap.size + 1 + 1, 7, none⟩) (by show w.heap.size ≤ w.heap.size + 1 + 1; omega) _)⟩
        | false =>
          have HE := hid (show R = _ by rw [HR.out, if_neg h0, if_neg hl, if_neg (by rw [hl1]; simp), if_neg (by rw [hl2]; simp)])
          rw [hl2] at HL2
          clear HR h0 hl hl1 hl2
          go_enter Try.func84, Try.ntmps84
          go_wp2_with fail
          refine (HL1.out _).mono ?_
          rintro e w5 ⟨rfl, hx⟩
          replace HB1 := hid (HB1.out.keep hx)
          replace HB2 := hid (HB2.out.keep hx)
          replace HB3 := hid (HB3.out.keep hx)
          obtain ⟨⟨p0, p1, p2, p3⟩, p4, p5, p6, p7⟩ := HB1.out.c8
          have f1 := HB1.out.frozen
          obtain ⟨q0, q1, q2⟩ := HB2.out.c3
          obtain ⟨⟨r0, r1, r2, r3⟩, r4, r5, r6, r7⟩ := HB3.out.c8
          have f3 := HB3.out.frozen
          replace HX0 := hid (HX0.out.then hx)
          clear hx
          go_wp2_with fail
          clear p0 p1 p2 p3 p4 p5 p6 p7 q0 q1 q2 r0 r1 r2 r3 r4 r5 r6 r7 f1 f3
          refine (HL2.out _).mono ?_
          rintro e w6 ⟨rfl, hx⟩
          replace HB1 := hid (HB1.out.keep hx)
          replace HB2 := hid (HB2.out.keep hx)
          replace HB3 := hid (HB3.out.keep hx)
          obtain ⟨⟨p0, p1, p2, p3⟩, p4, p5, p6, p7⟩ := HB1.out.c8
          have f1 := HB1.out.frozen
          obtain ⟨q0, q1, q2⟩ := HB2.out.c3
          obtain ⟨⟨r0, r1, r2, r3⟩, r4, r5, r6, r7⟩ := HB3.out.c8
          have f3 := HB3.out.frozen
          replace HX0 := hid (HX0.out.then hx)
          clear hx
          go_wp2
          have hne : w.heap.size + 1 + 1 ≠ w.heap.size := by omega
          refine bodyPost_ret (results_cell_row rfl _ _ (w.heap.size + 1 + 1) 45 _ (0, 0) _ rfl ((((((((HB3.out).set 0 _).set 1 _).set 2 _).set 3 _).set 4 _).set 5 _).set 6 _ |>.set 7 _) Try.underlying45 rfl (by kernel_rfl)) rfl ?_
          exact ⟨by rw [HE.out]; rfl, ((((((((HX0.out.put (p := ⟨w.heap.size + 1 + 1, 0, none⟩) (by show w.heap.size ≤ w.heap.size + 1 + 1; omega) _).put (p := ⟨w.heap.size + 1 + 1, 1, none⟩) (by show w.heap.size ≤ w.heap.size + 1 + 1; omega) _).put (p := ⟨w.heap.size + 1 + 1, 2, none⟩) (by show w.heap.size ≤ w.heap.size + 1 + 1; omega) _).put (p := ⟨w.heap.size + 1 + 1, 3, none⟩) (by show w.heap.size ≤ w.heap.size + 1 + 1; omega) _).put (p := ⟨w.heap.size + 1 + 1, 4, none⟩) (by show w.heap.size ≤ w.heap.size + 1 + 1; omega) _).put (p := ⟨w.heap.size + 1 + 1, 5, none⟩) (by show w.heap.size ≤ w.heap.size + 1 + 1; omega) _).put (p := ⟨w.heap.size + 1 + 1, 6, none⟩) (by show w.heap.size ≤ w.heap.size + 1 + 1; omega) _).put (p := ⟨w.heap.size + 1 + 1, 7, none⟩) (by show w.heap.size ≤ w.heap.size + 1 + 1; omega) _)⟩
end Go.Proofs.Ytpheegfanljeeaa
