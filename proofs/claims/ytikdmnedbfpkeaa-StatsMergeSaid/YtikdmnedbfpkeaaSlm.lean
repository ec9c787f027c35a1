/- StatsMerge: the walk. -/
import Derived.Test.YtikdmnedbfpkeaaStm
namespace Go.Proofs.Ytikdmnedbfpkeaa
open Go.RowKit Hy
set_option maxHeartbeats 4000000 in
theorem statsMerge_walk (kind : Int) (a b : Sta) (w : World) : Calls Try.prog 4 #[.int .i64 kind, staV a, staV b] w fun e w' => e = .returned (.bool true) ∧ Ext w w' := by
  obtain ⟨x, n, hx⟩ : ∃ x n, Cel.mg kind a b = (x, n) := ⟨_, _, rfl⟩
  have GM : Gives Try.prog 19 #[.int .i64 kind, staV a, staV b] (.tuple #[staV x, .int .i64 (n : Nat)]) := fun w => by have h := merge_any kind a b w; rw [hx] at h; exact h
  have GD : Gives Try.prog 20 #[.int .i64 kind, staV a, staV b] (.tuple #[staV x, .int .i64 (n : Nat)]) := fun w => by have h := mergedOf_any kind a b w; rw [← Cel.mg_mof, hx] at h; exact h
  clear hx
  obtain ⟨na0, na1, ⟨na2, na3, na4⟩, na5, na6, na7⟩ := a
  obtain ⟨nb0, nb1, ⟨nb2, nb3, nb4⟩, nb5, nb6, nb7⟩ := b
  obtain ⟨nx0, nx1, ⟨nx2, nx3, nx4⟩, nx5, nx6, nx7⟩ := x
  dsimp only [staV] at GM GD
  have X := hid (((ext_refl w).new (.cells #[.int .i64 na0, .int .i64 na1, .int .i64 na2, .int .u64 (na3 : Nat), .string na4, .int .i64 na5, .int .u64 (na6 : Nat), .string na7] 27)).new (.cells #[.int .i64 nb0, .int .i64 nb1, .int .i64 nb2, .int .u64 (nb3 : Nat), .string nb4, .int .i64 nb5, .int .u64 (nb6 : Nat), .string nb7] 27))
  have Ba := hid ((Blk.new w 27 #[.int .i64 na0, .int .i64 na1, .int .i64 na2, .int .u64 (na3 : Nat), .string na4, .int .i64 na5, .int .u64 (na6 : Nat), .string na7]).alloc (.cells #[.int .i64 nb0, .int .i64 nb1, .int .i64 nb2, .int .u64 (nb3 : Nat), .string nb4, .int .i64 nb5, .int .u64 (nb6 : Nat), .string nb7] 27))
  have Bb := hid (Blk.newAt (w := w.alloc (.cells #[.int .i64 na0, .int .i64 na1, .int .i64 na2, .int .u64 (na3 : Nat), .string na4, .int .i64 na5, .int .u64 (na6 : Nat), .string na7] 27)) (g := w.heap.size + 1) (t := 27) (cs := #[.int .i64 nb0, .int .i64 nb1, .int .i64 nb2, .int .u64 (nb3 : Nat), .string nb4, .int .i64 nb5, .int .u64 (nb6 : Nat), .string nb7]) (by simp))
  go_enter Try.func4, Try.ntmps4
  go_wp2_with fail
  refine (GM _).mono ?_
  rintro e w1 ⟨rfl, hx⟩
  replace X := hid (X.out.then hx)
  replace Ba := hid (Ba.out.keep hx)
  replace Bb := hid (Bb.out.keep hx)
  clear hx
  replace X := hid (Ext.new X.out (.cells #[.int .i64 nx0, .int .i64 nx1, .int .i64 nx2, .int .u64 (nx3 : Nat), .string nx4, .int .i64 nx5, .int .u64 (nx6 : Nat), .string nx7] 27))
  replace Ba := hid (Ba.out.alloc (.cells #[.int .i64 nx0, .int .i64 nx1, .int .i64 nx2, .int .u64 (nx3 : Nat), .string nx4, .int .i64 nx5, .int .u64 (nx6 : Nat), .string nx7] 27))
  replace Bb := hid (Bb.out.alloc (.cells #[.int .i64 nx0, .int .i64 nx1, .int .i64 nx2, .int .u64 (nx3 : Nat), .string nx4, .int .i64 nx5, .int .u64 (nx6 : Nat), .string nx7] 27))
  have Bx := hid (Blk.new w1 27 #[.int .i64 nx0, .int .i64 nx1, .int .i64 nx2, .int .u64 (nx3 : Nat), .string nx4, .int .i64 nx5, .int .u64 (nx6 : Nat), .string nx7])
  obtain ⟨⟨a0, a1, a2, a3⟩, a4, a5, a6, a7⟩ := Ba.out.c8
  obtain ⟨⟨b0, b1, b2, b3⟩, b4, b5, b6, b7⟩ := Bb.out.c8
  go_wp2_with fail
  refine (GD _).mono ?_
  rintro e w2 ⟨rfl, hx⟩
  clear a0 a1 a2 a3 a4 a5 a6 a7 b0 b1 b2 b3 b4 b5 b6 b7
  replace X := hid (X.out.then hx)
  replace Ba := hid (Ba.out.keep hx)
  replace Bb := hid (Bb.out.keep hx)
  replace Bx := hid (Bx.out.keep hx)
  clear hx
  replace X := hid (Ext.new X.out (.cells #[.int .i64 nx0, .int .i64 nx1, .int .i64 nx2, .int .u64 (nx3 : Nat), .string nx4, .int .i64 nx5, .int .u64 (nx6 : Nat), .string nx7] 27))
  replace Ba := hid (Ba.out.alloc (.cells #[.int .i64 nx0, .int .i64 nx1, .int .i64 nx2, .int .u64 (nx3 : Nat), .string nx4, .int .i64 nx5, .int .u64 (nx6 : Nat), .string nx7] 27))
  replace Bb := hid (Bb.out.alloc (.cells #[.int .i64 nx0, .int .i64 nx1, .int .i64 nx2, .int .u64 (nx3 : Nat), .string nx4, .int .i64 nx5, .int .u64 (nx6 : Nat), .string nx7] 27))
  replace Bx := hid (Bx.out.alloc (.cells #[.int .i64 nx0, .int .i64 nx1, .int .i64 nx2, .int .u64 (nx3 : Nat), .string nx4, .int .i64 nx5, .int .u64 (nx6 : Nat), .string nx7] 27))
  have Bx' := hid (Blk.new w2 27 #[.int .i64 nx0, .int .i64 nx1, .int .i64 nx2, .int .u64 (nx3 : Nat), .string nx4, .int .i64 nx5, .int .u64 (nx6 : Nat), .string nx7])
  go_wp2_with fail
  refine (statsBegun_any _).mono ?_
  rintro e w3 ⟨rfl, hx⟩
  replace X := hid (X.out.then hx)
  replace Ba := hid (Ba.out.keep hx)
  replace Bb := hid (Bb.out.keep hx)
  replace Bx := hid (Bx.out.keep hx)
  replace Bx' := hid (Bx'.out.keep hx)
  clear hx
  obtain ⟨⟨x0, x1, x2, x3⟩, x4, x5, x6, x7⟩ := Bx.out.c8
  obtain ⟨⟨x'0, x'1, x'2, x'3⟩, x'4, x'5, x'6, x'7⟩ := Bx'.out.c8
  go_wp2
  all_goals go_returns
  all_goals exact ⟨rfl, X.out⟩
end Go.Proofs.Ytikdmnedbfpkeaa
