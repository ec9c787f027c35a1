/- StatsMonoid: the walk. -/
import Derived.Test.YtikdmnedbfpkeaaStm
import Derived.Test.YtikdmnedbfpkeaaStq
namespace Go.Proofs.Ytikdmnedbfpkeaa
open Go.RowKit Hy
set_option maxHeartbeats 4000000 in
theorem statsMonoid_no (kind : Int) (a b c y : Sta) (w : World) (n m : Nat) (n2 : ((n : Int) != 0) = true) (G1 : Gives Try.prog 19 #[.int .i64 kind, staV a, staV b] (.tuple #[.agg #[.int .i64 0, .int .i64 0, .int .i64 0, .int .u64 0, .string .empty, .int .i64 0, .int .u64 0, .string .empty], .int .i64 (n : Nat)])) (G2 : Gives Try.prog 19 #[.int .i64 kind, staV b, staV a] (.tuple #[staV y, .int .i64 (m : Nat)])) :
    Calls Try.prog 6 #[.int .i64 kind, staV a, staV b, staV c] w fun e w' => e = .returned (.bool true) ∧ Ext w w' := by
  dsimp only [staV, Cel.SO, Cel.O] at G1 G2
  obtain ⟨na0, na1, ⟨na2, na3, na4⟩, na5, na6, na7⟩ := a
  obtain ⟨nb0, nb1, ⟨nb2, nb3, nb4⟩, nb5, nb6, nb7⟩ := b
  obtain ⟨nc0, nc1, ⟨nc2, nc3, nc4⟩, nc5, nc6, nc7⟩ := c
  obtain ⟨ny0, ny1, ⟨ny2, ny3, ny4⟩, ny5, ny6, ny7⟩ := y
  have X := hid ((((ext_refl w).new (.cells #[.int .i64 na0, .int .i64 na1, .int .i64 na2, .int .u64 (na3 : Nat), .string na4, .int .i64 na5, .int .u64 (na6 : Nat), .string na7] 27)).new (.cells #[.int .i64 nb0, .int .i64 nb1, .int .i64 nb2, .int .u64 (nb3 : Nat), .string nb4, .int .i64 nb5, .int .u64 (nb6 : Nat), .string nb7] 27)).new (.cells #[.int .i64 nc0, .int .i64 nc1, .int .i64 nc2, .int .u64 (nc3 : Nat), .string nc4, .int .i64 nc5, .int .u64 (nc6 : Nat), .string nc7] 27))
  have Ba := hid (((Blk.new w 27 #[.int .i64 na0, .int .i64 na1, .int .i64 na2, .int .u64 (na3 : Nat), .string na4, .int .i64 na5, .int .u64 (na6 : Nat), .string na7]).alloc (.cells #[.int .i64 nb0, .int .i64 nb1, .int .i64 nb2, .int .u64 (nb3 : Nat), .string nb4, .int .i64 nb5, .int .u64 (nb6 : Nat), .string nb7] 27)).alloc (.cells #[.int .i64 nc0, .int .i64 nc1, .int .i64 nc2, .int .u64 (nc3 : Nat), .string nc4, .int .i64 nc5, .int .u64 (nc6 : Nat), .string nc7] 27))
  have Bb := hid ((Blk.newAt (w := (w.alloc (.cells #[.int .i64 na0, .int .i64 na1, .int .i64 na2, .int .u64 (na3 : Nat), .string na4, .int .i64 na5, .int .u64 (na6 : Nat), .string na7] 27))) (g := w.heap.size + 1) (t := 27) (cs := #[.int .i64 nb0, .int .i64 nb1, .int .i64 nb2, .int .u64 (nb3 : Nat), .string nb4, .int .i64 nb5, .int .u64 (nb6 : Nat), .string nb7]) (by simp)).alloc (.cells #[.int .i64 nc0, .int .i64 nc1, .int .i64 nc2, .int .u64 (nc3 : Nat), .string nc4, .int .i64 nc5, .int .u64 (nc6 : Nat), .string nc7] 27))
  have Bc := hid (Blk.newAt (w := ((w.alloc (.cells #[.int .i64 na0, .int .i64 na1, .int .i64 na2, .int .u64 (na3 : Nat), .string na4, .int .i64 na5, .int .u64 (na6 : Nat), .string na7] 27)).alloc (.cells #[.int .i64 nb0, .int .i64 nb1, .int .i64 nb2, .int .u64 (nb3 : Nat), .string nb4, .int .i64 nb5, .int .u64 (nb6 : Nat), .string nb7] 27))) (g := w.heap.size + 1 + 1) (t := 27) (cs := #[.int .i64 nc0, .int .i64 nc1, .int .i64 nc2, .int .u64 (nc3 : Nat), .string nc4, .int .i64 nc5, .int .u64 (nc6 : Nat), .string nc7]) (by simp))
  go_enter Try.func6, Try.ntmps6
  obtain ⟨⟨a0, a1, a2, a3⟩, a4, a5, a6, a7⟩ := Ba.out.c8
  obtain ⟨⟨b0, b1, b2, b3⟩, b4, b5, b6, b7⟩ := Bb.out.c8
  go_wp2_with fail
  refine (G1 _).mono ?_
  rintro e w1 ⟨rfl, hx⟩
  clear a0 a1 a2 a3 a4 a5 a6 a7 b0 b1 b2 b3 b4 b5 b6 b7
  replace X := hid (X.out.then hx)
  replace Ba := hid (Ba.out.keep hx)
  replace Bb := hid (Bb.out.keep hx)
  clear hx
  replace X := hid (Ext.new X.out (.cells #[.int .i64 0, .int .i64 0, .int .i64 0, .int .u64 0, .string .empty, .int .i64 0, .int .u64 0, .string .empty] 27))
  replace Ba := hid (Ba.out.alloc (.cells #[.int .i64 0, .int .i64 0, .int .i64 0, .int .u64 0, .string .empty, .int .i64 0, .int .u64 0, .string .empty] 27))
  replace Bb := hid (Bb.out.alloc (.cells #[.int .i64 0, .int .i64 0, .int .i64 0, .int .u64 0, .string .empty, .int .i64 0, .int .u64 0, .string .empty] 27))
  have Bx := hid (Blk.new w1 27 #[.int .i64 0, .int .i64 0, .int .i64 0, .int .u64 0, .string .empty, .int .i64 0, .int .u64 0, .string .empty])
  obtain ⟨⟨a0, a1, a2, a3⟩, a4, a5, a6, a7⟩ := Ba.out.c8
  obtain ⟨⟨b0, b1, b2, b3⟩, b4, b5, b6, b7⟩ := Bb.out.c8
  go_wp2_with fail
  refine (G2 _).mono ?_
  rintro e w2 ⟨rfl, hx⟩
  clear a0 a1 a2 a3 a4 a5 a6 a7 b0 b1 b2 b3 b4 b5 b6 b7
  replace X := hid (X.out.then hx)
  replace Ba := hid (Ba.out.keep hx)
  replace Bb := hid (Bb.out.keep hx)
  replace Bx := hid (Bx.out.keep hx)
  clear hx
  replace X := hid (Ext.new X.out (.cells #[.int .i64 ny0, .int .i64 ny1, .int .i64 ny2, .int .u64 (ny3 : Nat), .string ny4, .int .i64 ny5, .int .u64 (ny6 : Nat), .string ny7] 27))
  replace Ba := hid (Ba.out.alloc (.cells #[.int .i64 ny0, .int .i64 ny1, .int .i64 ny2, .int .u64 (ny3 : Nat), .string ny4, .int .i64 ny5, .int .u64 (ny6 : Nat), .string ny7] 27))
  replace Bb := hid (Bb.out.alloc (.cells #[.int .i64 ny0, .int .i64 ny1, .int .i64 ny2, .int .u64 (ny3 : Nat), .string ny4, .int .i64 ny5, .int .u64 (ny6 : Nat), .string ny7] 27))
  replace Bx := hid (Bx.out.alloc (.cells #[.int .i64 ny0, .int .i64 ny1, .int .i64 ny2, .int .u64 (ny3 : Nat), .string ny4, .int .i64 ny5, .int .u64 (ny6 : Nat), .string ny7] 27))
  have By := hid (Blk.new w2 27 #[.int .i64 ny0, .int .i64 ny1, .int .i64 ny2, .int .u64 (ny3 : Nat), .string ny4, .int .i64 ny5, .int .u64 (ny6 : Nat), .string ny7])
  go_wp2_with fail
  refine (statsBegun_any _).mono ?_
  rintro e w3 ⟨rfl, hx⟩
  replace X := hid (X.out.then hx)
  replace Ba := hid (Ba.out.keep hx)
  replace Bb := hid (Bb.out.keep hx)
  replace Bx := hid (Bx.out.keep hx)
  replace By := hid (By.out.keep hx)
  clear hx
  obtain ⟨⟨x0, x1, x2, x3⟩, x4, x5, x6, x7⟩ := Bx.out.c8
  go_wp2
  all_goals go_returns
  all_goals exact ⟨rfl, X.out⟩
set_option maxHeartbeats 4000000 in
theorem statsMonoid_i (kind : Int) (a b c x p q : Sta) (w : World) (i j : Nat) (i2 : ((i : Int) != 0) = true) (G1 : Gives Try.prog 19 #[.int .i64 kind, staV a, staV b] (.tuple #[staV x, .int .i64 (0 : Nat)])) (G2 : Gives Try.prog 19 #[.int .i64 kind, staV b, staV a] (.tuple #[staV x, .int .i64 (0 : Nat)])) (G3 : Gives Try.prog 19 #[.int .i64 kind, staV a, staV Cel.SO] (.tuple #[staV a, .int .i64 (0 : Nat)])) (G4 : Gives Try.prog 19 #[.int .i64 kind, staV x, staV c] (.tuple #[staV p, .int .i64 (i : Nat)])) (G5 : Gives Try.prog 19 #[.int .i64 kind, staV b, staV c] (.tuple #[staV q, .int .i64 (j : Nat)])) :
    Calls Try.prog 6 #[.int .i64 kind, staV a, staV b, staV c] w fun e w' => e = .returned (.bool true) ∧ Ext w w' := by
  dsimp only [staV, Cel.SO, Cel.O] at G1 G2 G3 G4 G5
  obtain ⟨na0, na1, ⟨na2, na3, na4⟩, na5, na6, na7⟩ := a
  obtain ⟨nb0, nb1, ⟨nb2, nb3, nb4⟩, nb5, nb6, nb7⟩ := b
  obtain ⟨nc0, nc1, ⟨nc2, nc3, nc4⟩, nc5, nc6, nc7⟩ := c
  obtain ⟨nx0, nx1, ⟨nx2, nx3, nx4⟩, nx5, nx6, nx7⟩ := x
  obtain ⟨np0, np1, ⟨np2, np3, np4⟩, np5, np6, np7⟩ := p
  obtain ⟨nq0, nq1, ⟨nq2, nq3, nq4⟩, nq5, nq6, nq7⟩ := q
  have X := hid ((((ext_refl w).new (.cells #[.int .i64 na0, .int .i64 na1, .int .i64 na2, .int .u64 (na3 : Nat), .string na4, .int .i64 na5, .int .u64 (na6 : Nat), .string na7] 27)).new (.cells #[.int .i64 nb0, .int .i64 nb1, .int .i64 nb2, .int .u64 (nb3 : Nat), .string nb4, .int .i64 nb5, .int .u64 (nb6 : Nat), .string nb7] 27)).new (.cells #[.int .i64 nc0, .int .i64 nc1, .int .i64 nc2, .int .u64 (nc3 : Nat), .string nc4, .int .i64 nc5, .int .u64 (nc6 : Nat), .string nc7] 27))
  have Ba := hid (((Blk.new w 27 #[.int .i64 na0, .int .i64 na1, .int .i64 na2, .int .u64 (na3 : Nat), .string na4, .int .i64 na5, .int .u64 (na6 : Nat), .string na7]).alloc (.cells #[.int .i64 nb0, .int .i64 nb1, .int .i64 nb2, .int .u64 (nb3 : Nat), .string nb4, .int .i64 nb5, .int .u64 (nb6 : Nat), .string nb7] 27)).alloc (.cells #[.int .i64 nc0, .int .i64 nc1, .int .i64 nc2, .int .u64 (nc3 : Nat), .string nc4, .int .i64 nc5, .int .u64 (nc6 : Nat), .string nc7] 27))
  have Bb := hid ((Blk.newAt (w := (w.alloc (.cells #[.int .i64 na0, .int .i64 na1, .int .i64 na2, .int .u64 (na3 : Nat), .string na4, .int .i64 na5, .int .u64 (na6 : Nat), .string na7] 27))) (g := w.heap.size + 1) (t := 27) (cs := #[.int .i64 nb0, .int .i64 nb1, .int .i64 nb2, .int .u64 (nb3 : Nat), .string nb4, .int .i64 nb5, .int .u64 (nb6 : Nat), .string nb7]) (by simp)).alloc (.cells #[.int .i64 nc0, .int .i64 nc1, .int .i64 nc2, .int .u64 (nc3 : Nat), .string nc4, .int .i64 nc5, .int .u64 (nc6 : Nat), .string nc7] 27))
  have Bc := hid (Blk.newAt (w := ((w.alloc (.cells #[.int .i64 na0, .int .i64 na1, .int .i64 na2, .int .u64 (na3 : Nat), .string na4, .int .i64 na5, .int .u64 (na6 : Nat), .string na7] 27)).alloc (.cells #[.int .i64 nb0, .int .i64 nb1, .int .i64 nb2, .int .u64 (nb3 : Nat), .string nb4, .int .i64 nb5, .int .u64 (nb6 : Nat), .string nb7] 27))) (g := w.heap.size + 1 + 1) (t := 27) (cs := #[.int .i64 nc0, .int .i64 nc1, .int .i64 nc2, .int .u64 (nc3 : Nat), .string nc4, .int .i64 nc5, .int .u64 (nc6 : Nat), .string nc7]) (by simp))
  go_enter Try.func6, Try.ntmps6
  obtain ⟨⟨a0, a1, a2, a3⟩, a4, a5, a6, a7⟩ := Ba.out.c8
  obtain ⟨⟨b0, b1, b2, b3⟩, b4, b5, b6, b7⟩ := Bb.out.c8
  go_wp2_with fail
  refine (G1 _).mono ?_
  rintro e w1 ⟨rfl, hx⟩
  clear a0 a1 a2 a3 a4 a5 a6 a7 b0 b1 b2 b3 b4 b5 b6 b7
  replace X := hid (X.out.then hx)
  replace Ba := hid (Ba.out.keep hx)
  replace Bb := hid (Bb.out.keep hx)
  replace Bc := hid (Bc.out.keep hx)
  clear hx
  replace X := hid (Ext.new X.out (.cells #[.int .i64 nx0, .int .i64 nx1, .int .i64 nx2, .int .u64 (nx3 : Nat), .string nx4, .int .i64 nx5, .int .u64 (nx6 : Nat), .string nx7] 27))
  replace Ba := hid (Ba.out.alloc (.cells #[.int .i64 nx0, .int .i64 nx1, .int .i64 nx2, .int .u64 (nx3 : Nat), .string nx4, .int .i64 nx5, .int .u64 (nx6 : Nat), .string nx7] 27))
  replace Bb := hid (Bb.out.alloc (.cells #[.int .i64 nx0, .int .i64 nx1, .int .i64 nx2, .int .u64 (nx3 : Nat), .string nx4, .int .i64 nx5, .int .u64 (nx6 : Nat), .string nx7] 27))
  replace Bc := hid (Bc.out.alloc (.cells #[.int .i64 nx0, .int .i64 nx1, .int .i64 nx2, .int .u64 (nx3 : Nat), .string nx4, .int .i64 nx5, .int .u64 (nx6 : Nat), .string nx7] 27))
  have Bx := hid (Blk.new w1 27 #[.int .i64 nx0, .int .i64 nx1, .int .i64 nx2, .int .u64 (nx3 : Nat), .string nx4, .int .i64 nx5, .int .u64 (nx6 : Nat), .string nx7])
  obtain ⟨⟨a0, a1, a2, a3⟩, a4, a5, a6, a7⟩ := Ba.out.c8
  obtain ⟨⟨b0, b1, b2, b3⟩, b4, b5, b6, b7⟩ := Bb.out.c8
  go_wp2_with fail
  refine (G2 _).mono ?_
  rintro e w2 ⟨rfl, hx⟩
  clear a0 a1 a2 a3 a4 a5 a6 a7 b0 b1 b2 b3 b4 b5 b6 b7
  replace X := hid (X.out.then hx)
  replace Ba := hid (Ba.out.keep hx)
  replace Bb := hid (Bb.out.keep hx)
  replace Bc := hid (Bc.out.keep hx)
  replace Bx := hid (Bx.out.keep hx)
  clear hx
  replace X := hid (Ext.new X.out (.cells #[.int .i64 nx0, .int .i64 nx1, .int .i64 nx2, .int .u64 (nx3 : Nat), .string nx4, .int .i64 nx5, .int .u64 (nx6 : Nat), .string nx7] 27))
  replace Ba := hid (Ba.out.alloc (.cells #[.int .i64 nx0, .int .i64 nx1, .int .i64 nx2, .int .u64 (nx3 : Nat), .string nx4, .int .i64 nx5, .int .u64 (nx6 : Nat), .string nx7] 27))
  replace Bb := hid (Bb.out.alloc (.cells #[.int .i64 nx0, .int .i64 nx1, .int .i64 nx2, .int .u64 (nx3 : Nat), .string nx4, .int .i64 nx5, .int .u64 (nx6 : Nat), .string nx7] 27))
  replace Bc := hid (Bc.out.alloc (.cells #[.int .i64 nx0, .int .i64 nx1, .int .i64 nx2, .int .u64 (nx3 : Nat), .string nx4, .int .i64 nx5, .int .u64 (nx6 : Nat), .string nx7] 27))
  replace Bx := hid (Bx.out.alloc (.cells #[.int .i64 nx0, .int .i64 nx1, .int .i64 nx2, .int .u64 (nx3 : Nat), .string nx4, .int .i64 nx5, .int .u64 (nx6 : Nat), .string nx7] 27))
  have By := hid (Blk.new w2 27 #[.int .i64 nx0, .int .i64 nx1, .int .i64 nx2, .int .u64 (nx3 : Nat), .string nx4, .int .i64 nx5, .int .u64 (nx6 : Nat), .string nx7])
  go_wp2_with fail
  refine (statsBegun_any _).mono ?_
  rintro e w3 ⟨rfl, hx⟩
  replace X := hid (X.out.then hx)
  replace Ba := hid (Ba.out.keep hx)
  replace Bb := hid (Bb.out.keep hx)
  replace Bc := hid (Bc.out.keep hx)
  replace Bx := hid (Bx.out.keep hx)
  replace By := hid (By.out.keep hx)
  clear hx
  obtain ⟨⟨a0, a1, a2, a3⟩, a4, a5, a6, a7⟩ := Ba.out.c8
  go_wp2_with fail
  refine (G3 _).mono ?_
  rintro e w4 ⟨rfl, hx⟩
  clear a0 a1 a2 a3 a4 a5 a6 a7
  replace X := hid (X.out.then hx)
  replace Ba := hid (Ba.out.keep hx)
  replace Bb := hid (Bb.out.keep hx)
  replace Bc := hid (Bc.out.keep hx)
  replace Bx := hid (Bx.out.keep hx)
  replace By := hid (By.out.keep hx)
  clear hx
  replace X := hid (Ext.new X.out (.cells #[.int .i64 na0, .int .i64 na1, .int .i64 na2, .int .u64 (na3 : Nat), .string na4, .int .i64 na5, .int .u64 (na6 : Nat), .string na7] 27))
  replace Ba := hid (Ba.out.alloc (.cells #[.int .i64 na0, .int .i64 na1, .int .i64 na2, .int .u64 (na3 : Nat), .string na4, .int .i64 na5, .int .u64 (na6 : Nat), .string na7] 27))
  replace Bb := hid (Bb.out.alloc (.cells #[.int .i64 na0, .int .i64 na1, .int .i64 na2, .int .u64 (na3 : Nat), .string na4, .int .i64 na5, .int .u64 (na6 : Nat), .string na7] 27))
  replace Bc := hid (Bc.out.alloc (.cells #[.int .i64 na0, .int .i64 na1, .int .i64 na2, .int .u64 (na3 : Nat), .string na4, .int .i64 na5, .int .u64 (na6 : Nat), .string na7] 27))
  replace Bx := hid (Bx.out.alloc (.cells #[.int .i64 na0, .int .i64 na1, .int .i64 na2, .int .u64 (na3 : Nat), .string na4, .int .i64 na5, .int .u64 (na6 : Nat), .string na7] 27))
  replace By := hid (By.out.alloc (.cells #[.int .i64 na0, .int .i64 na1, .int .i64 na2, .int .u64 (na3 : Nat), .string na4, .int .i64 na5, .int .u64 (na6 : Nat), .string na7] 27))
  have Bz := hid (Blk.new w4 27 #[.int .i64 na0, .int .i64 na1, .int .i64 na2, .int .u64 (na3 : Nat), .string na4, .int .i64 na5, .int .u64 (na6 : Nat), .string na7])
  obtain ⟨⟨x0, x1, x2, x3⟩, x4, x5, x6, x7⟩ := Bx.out.c8
  obtain ⟨⟨y0, y1, y2, y3⟩, y4, y5, y6, y7⟩ := By.out.c8
  obtain ⟨⟨z0, z1, z2, z3⟩, z4, z5, z6, z7⟩ := Bz.out.c8
  obtain ⟨⟨a0, a1, a2, a3⟩, a4, a5, a6, a7⟩ := Ba.out.c8
  obtain ⟨⟨c0, c1, c2, c3⟩, c4, c5, c6, c7⟩ := Bc.out.c8
  go_wp2_with fail
  refine (G4 _).mono ?_
  rintro e w5 ⟨rfl, hx⟩
  clear x0 x1 x2 x3 x4 x5 x6 x7 y0 y1 y2 y3 y4 y5 y6 y7 z0 z1 z2 z3 z4 z5 z6 z7 a0 a1 a2 a3 a4 a5 a6 a7 c0 c1 c2 c3 c4 c5 c6 c7
  replace X := hid (X.out.then hx)
  replace Ba := hid (Ba.out.keep hx)
  replace Bb := hid (Bb.out.keep hx)
  replace Bc := hid (Bc.out.keep hx)
  replace Bx := hid (Bx.out.keep hx)
  replace By := hid (By.out.keep hx)
  replace Bz := hid (Bz.out.keep hx)
  clear hx
  replace X := hid (Ext.new X.out (.cells #[.int .i64 np0, .int .i64 np1, .int .i64 np2, .int .u64 (np3 : Nat), .string np4, .int .i64 np5, .int .u64 (np6 : Nat), .string np7] 27))
  replace Ba := hid (Ba.out.alloc (.cells #[.int .i64 np0, .int .i64 np1, .int .i64 np2, .int .u64 (np3 : Nat), .string np4, .int .i64 np5, .int .u64 (np6 : Nat), .string np7] 27))
  replace Bb := hid (Bb.out.alloc (.cells #[.int .i64 np0, .int .i64 np1, .int .i64 np2, .int .u64 (np3 : Nat), .string np4, .int .i64 np5, .int .u64 (np6 : Nat), .string np7] 27))
  replace Bc := hid (Bc.out.alloc (.cells #[.int .i64 np0, .int .i64 np1, .int .i64 np2, .int .u64 (np3 : Nat), .string np4, .int .i64 np5, .int .u64 (np6 : Nat), .string np7] 27))
  have Bp := hid (Blk.new w5 27 #[.int .i64 np0, .int .i64 np1, .int .i64 np2, .int .u64 (np3 : Nat), .string np4, .int .i64 np5, .int .u64 (np6 : Nat), .string np7])
  obtain ⟨⟨b0, b1, b2, b3⟩, b4, b5, b6, b7⟩ := Bb.out.c8
  obtain ⟨⟨c0, c1, c2, c3⟩, c4, c5, c6, c7⟩ := Bc.out.c8
  go_wp2_with fail
  refine (G5 _).mono ?_
  rintro e w6 ⟨rfl, hx⟩
  clear b0 b1 b2 b3 b4 b5 b6 b7 c0 c1 c2 c3 c4 c5 c6 c7
  replace X := hid (X.out.then hx)
  replace Ba := hid (Ba.out.keep hx)
  replace Bb := hid (Bb.out.keep hx)
  replace Bc := hid (Bc.out.keep hx)
  replace Bp := hid (Bp.out.keep hx)
  clear hx
  replace X := hid (Ext.new X.out (.cells #[.int .i64 nq0, .int .i64 nq1, .int .i64 nq2, .int .u64 (nq3 : Nat), .string nq4, .int .i64 nq5, .int .u64 (nq6 : Nat), .string nq7] 27))
  replace Ba := hid (Ba.out.alloc (.cells #[.int .i64 nq0, .int .i64 nq1, .int .i64 nq2, .int .u64 (nq3 : Nat), .string nq4, .int .i64 nq5, .int .u64 (nq6 : Nat), .string nq7] 27))
  replace Bb := hid (Bb.out.alloc (.cells #[.int .i64 nq0, .int .i64 nq1, .int .i64 nq2, .int .u64 (nq3 : Nat), .string nq4, .int .i64 nq5, .int .u64 (nq6 : Nat), .string nq7] 27))
  replace Bc := hid (Bc.out.alloc (.cells #[.int .i64 nq0, .int .i64 nq1, .int .i64 nq2, .int .u64 (nq3 : Nat), .string nq4, .int .i64 nq5, .int .u64 (nq6 : Nat), .string nq7] 27))
  replace Bp := hid (Bp.out.alloc (.cells #[.int .i64 nq0, .int .i64 nq1, .int .i64 nq2, .int .u64 (nq3 : Nat), .string nq4, .int .i64 nq5, .int .u64 (nq6 : Nat), .string nq7] 27))
  have Bq := hid (Blk.new w6 27 #[.int .i64 nq0, .int .i64 nq1, .int .i64 nq2, .int .u64 (nq3 : Nat), .string nq4, .int .i64 nq5, .int .u64 (nq6 : Nat), .string nq7])
  go_wp2
  all_goals go_returns
  all_goals exact ⟨rfl, X.out⟩
set_option maxHeartbeats 4000000 in
theorem statsMonoid_j (kind : Int) (a b c x p q : Sta) (w : World) (i j : Nat) (i2 : ((i : Int) != 0) = false) (j2 : ((j : Int) != 0) = true) (G1 : Gives Try.prog 19 #[.int .i64 kind, staV a, staV b] (.tuple #[staV x, .int .i64 (0 : Nat)])) (G2 : Gives Try.prog 19 #[.int .i64 kind, staV b, staV a] (.tuple #[staV x, .int .i64 (0 : Nat)])) (G3 : Gives Try.prog 19 #[.int .i64 kind, staV a, staV Cel.SO] (.tuple #[staV a, .int .i64 (0 : Nat)])) (G4 : Gives Try.prog 19 #[.int .i64 kind, staV x, staV c] (.tuple #[staV p, .int .i64 (i : Nat)])) (G5 : Gives Try.prog 19 #[.int .i64 kind, staV b, staV c] (.tuple #[staV q, .int .i64 (j : Nat)])) :
    Calls Try.prog 6 #[.int .i64 kind, staV a, staV b, staV c] w fun e w' => e = .returned (.bool true) ∧ Ext w w' := by
  dsimp only [staV, Cel.SO, Cel.O] at G1 G2 G3 G4 G5
  obtain ⟨na0, na1, ⟨na2, na3, na4⟩, na5, na6, na7⟩ := a
  obtain ⟨nb0, nb1, ⟨nb2, nb3, nb4⟩, nb5, nb6, nb7⟩ := b
  obtain ⟨nc0, nc1, ⟨nc2, nc3, nc4⟩, nc5, nc6, nc7⟩ := c
  obtain ⟨nx0, nx1, ⟨nx2, nx3, nx4⟩, nx5, nx6, nx7⟩ := x
  obtain ⟨np0, np1, ⟨np2, np3, np4⟩, np5, np6, np7⟩ := p
  obtain ⟨nq0, nq1, ⟨nq2, nq3, nq4⟩, nq5, nq6, nq7⟩ := q
  have X := hid ((((ext_refl w).new (.cells #[.int .i64 na0, .int .i64 na1, .int .i64 na2, .int .u64 (na3 : Nat), .string na4, .int .i64 na5, .int .u64 (na6 : Nat), .string na7] 27)).new (.cells #[.int .i64 nb0, .int .i64 nb1, .int .i64 nb2, .int .u64 (nb3 : Nat), .string nb4, .int .i64 nb5, .int .u64 (nb6 : Nat), .string nb7] 27)).new (.cells #[.int .i64 nc0, .int .i64 nc1, .int .i64 nc2, .int .u64 (nc3 : Nat), .string nc4, .int .i64 nc5, .int .u64 (nc6 : Nat), .string nc7] 27))
  have Ba := hid (((Blk.new w 27 #[.int .i64 na0, .int .i64 na1, .int .i64 na2, .int .u64 (na3 : Nat), .string na4, .int .i64 na5, .int .u64 (na6 : Nat), .string na7]).alloc (.cells #[.int .i64 nb0, .int .i64 nb1, .int .i64 nb2, .int .u64 (nb3 : Nat), .string nb4, .int .i64 nb5, .int .u64 (nb6 : Nat), .string nb7] 27)).alloc (.cells #[.int .i64 nc0, .int .i64 nc1, .int .i64 nc2, .int .u64 (nc3 : Nat), .string nc4, .int .i64 nc5, .int .u64 (nc6 : Nat), .string nc7] 27))
  have Bb := hid ((Blk.newAt (w := (w.alloc (.cells #[.int .i64 na0, .int .i64 na1, .int .i64 na2, .int .u64 (na3 : Nat), .string na4, .int .i64 na5, .int .u64 (na6 : Nat), .string na7] 27))) (g := w.heap.size + 1) (t := 27) (cs := #[.int .i64 nb0, .int .i64 nb1, .int .i64 nb2, .int .u64 (nb3 : Nat), .string nb4, .int .i64 nb5, .int .u64 (nb6 : Nat), .string nb7]) (by simp)).alloc (.cells #[.int .i64 nc0, .int .i64 nc1, .int .i64 nc2, .int .u64 (nc3 : Nat), .string nc4, .int .i64 nc5, .int .u64 (nc6 : Nat), .string nc7] 27))
  have Bc := hid (Blk.newAt (w := ((w.alloc (.cells #[.int .i64 na0, .int .i64 na1, .int .i64 na2, .int .u64 (na3 : Nat), .string na4, .int .i64 na5, .int .u64 (na6 : Nat), .string na7] 27)).alloc (.cells #[.int .i64 nb0, .int .i64 nb1, .int .i64 nb2, .int .u64 (nb3 : Nat), .string nb4, .int .i64 nb5, .int .u64 (nb6 : Nat), .string nb7] 27))) (g := w.heap.size + 1 + 1) (t := 27) (cs := #[.int .i64 nc0, .int .i64 nc1, .int .i64 nc2, .int .u64 (nc3 : Nat), .string nc4, .int .i64 nc5, .int .u64 (nc6 : Nat), .string nc7]) (by simp))
  go_enter Try.func6, Try.ntmps6
  obtain ⟨⟨a0, a1, a2, a3⟩, a4, a5, a6, a7⟩ := Ba.out.c8
  obtain ⟨⟨b0, b1, b2, b3⟩, b4, b5, b6, b7⟩ := Bb.out.c8
  go_wp2_with fail
  refine (G1 _).mono ?_
  rintro e w1 ⟨rfl, hx⟩
  clear a0 a1 a2 a3 a4 a5 a6 a7 b0 b1 b2 b3 b4 b5 b6 b7
  replace X := hid (X.out.then hx)
  replace Ba := hid (Ba.out.keep hx)
  replace Bb := hid (Bb.out.keep hx)
  replace Bc := hid (Bc.out.keep hx)
  clear hx
  replace X := hid (Ext.new X.out (.cells #[.int .i64 nx0, .int .i64 nx1, .int .i64 nx2, .int .u64 (nx3 : Nat), .string nx4, .int .i64 nx5, .int .u64 (nx6 : Nat), .string nx7] 27))
  replace Ba := hid (Ba.out.alloc (.cells #[.int .i64 nx0, .int .i64 nx1, .int .i64 nx2, .int .u64 (nx3 : Nat), .string nx4, .int .i64 nx5, .int .u64 (nx6 : Nat), .string nx7] 27))
  replace Bb := hid (Bb.out.alloc (.cells #[.int .i64 nx0, .int .i64 nx1, .int .i64 nx2, .int .u64 (nx3 : Nat), .string nx4, .int .i64 nx5, .int .u64 (nx6 : Nat), .string nx7] 27))
  replace Bc := hid (Bc.out.alloc (.cells #[.int .i64 nx0, .int .i64 nx1, .int .i64 nx2, .int .u64 (nx3 : Nat), .string nx4, .int .i64 nx5, .int .u64 (nx6 : Nat), .string nx7] 27))
  have Bx := hid (Blk.new w1 27 #[.int .i64 nx0, .int .i64 nx1, .int .i64 nx2, .int .u64 (nx3 : Nat), .string nx4, .int .i64 nx5, .int .u64 (nx6 : Nat), .string nx7])
  obtain ⟨⟨a0, a1, a2, a3⟩, a4, a5, a6, a7⟩ := Ba.out.c8
  obtain ⟨⟨b0, b1, b2, b3⟩, b4, b5, b6, b7⟩ := Bb.out.c8
  go_wp2_with fail
  refine (G2 _).mono ?_
  rintro e w2 ⟨rfl, hx⟩
  clear a0 a1 a2 a3 a4 a5 a6 a7 b0 b1 b2 b3 b4 b5 b6 b7
  replace X := hid (X.out.then hx)
  replace Ba := hid (Ba.out.keep hx)
  replace Bb := hid (Bb.out.keep hx)
  replace Bc := hid (Bc.out.keep hx)
  replace Bx := hid (Bx.out.keep hx)
  clear hx
  replace X := hid (Ext.new X.out (.cells #[.int .i64 nx0, .int .i64 nx1, .int .i64 nx2, .int .u64 (nx3 : Nat), .string nx4, .int .i64 nx5, .int .u64 (nx6 : Nat), .string nx7] 27))
  replace Ba := hid (Ba.out.alloc (.cells #[.int .i64 nx0, .int .i64 nx1, .int .i64 nx2, .int .u64 (nx3 : Nat), .string nx4, .int .i64 nx5, .int .u64 (nx6 : Nat), .string nx7] 27))
  replace Bb := hid (Bb.out.alloc (.cells #[.int .i64 nx0, .int .i64 nx1, .int .i64 nx2, .int .u64 (nx3 : Nat), .string nx4, .int .i64 nx5, .int .u64 (nx6 : Nat), .string nx7] 27))
  replace Bc := hid (Bc.out.alloc (.cells #[.int .i64 nx0, .int .i64 nx1, .int .i64 nx2, .int .u64 (nx3 : Nat), .string nx4, .int .i64 nx5, .int .u64 (nx6 : Nat), .string nx7] 27))
  replace Bx := hid (Bx.out.alloc (.cells #[.int .i64 nx0, .int .i64 nx1, .int .i64 nx2, .int .u64 (nx3 : Nat), .string nx4, .int .i64 nx5, .int .u64 (nx6 : Nat), .string nx7] 27))
  have By := hid (Blk.new w2 27 #[.int .i64 nx0, .int .i64 nx1, .int .i64 nx2, .int .u64 (nx3 : Nat), .string nx4, .int .i64 nx5, .int .u64 (nx6 : Nat), .string nx7])
  go_wp2_with fail
  refine (statsBegun_any _).mono ?_
  rintro e w3 ⟨rfl, hx⟩
  replace X := hid (X.out.then hx)
  replace Ba := hid (Ba.out.keep hx)
  replace Bb := hid (Bb.out.keep hx)
  replace Bc := hid (Bc.out.keep hx)
  replace Bx := hid (Bx.out.keep hx)
  replace By := hid (By.out.keep hx)
  clear hx
  obtain ⟨⟨a0, a1, a2, a3⟩, a4, a5, a6, a7⟩ := Ba.out.c8
  go_wp2_with fail
  refine (G3 _).mono ?_
  rintro e w4 ⟨rfl, hx⟩
  clear a0 a1 a2 a3 a4 a5 a6 a7
  replace X := hid (X.out.then hx)
  replace Ba := hid (Ba.out.keep hx)
  replace Bb := hid (Bb.out.keep hx)
  replace Bc := hid (Bc.out.keep hx)
  replace Bx := hid (Bx.out.keep hx)
  replace By := hid (By.out.keep hx)
  clear hx
  replace X := hid (Ext.new X.out (.cells #[.int .i64 na0, .int .i64 na1, .int .i64 na2, .int .u64 (na3 : Nat), .string na4, .int .i64 na5, .int .u64 (na6 : Nat), .string na7] 27))
  replace Ba := hid (Ba.out.alloc (.cells #[.int .i64 na0, .int .i64 na1, .int .i64 na2, .int .u64 (na3 : Nat), .string na4, .int .i64 na5, .int .u64 (na6 : Nat), .string na7] 27))
  replace Bb := hid (Bb.out.alloc (.cells #[.int .i64 na0, .int .i64 na1, .int .i64 na2, .int .u64 (na3 : Nat), .string na4, .int .i64 na5, .int .u64 (na6 : Nat), .string na7] 27))
  replace Bc := hid (Bc.out.alloc (.cells #[.int .i64 na0, .int .i64 na1, .int .i64 na2, .int .u64 (na3 : Nat), .string na4, .int .i64 na5, .int .u64 (na6 : Nat), .string na7] 27))
  replace Bx := hid (Bx.out.alloc (.cells #[.int .i64 na0, .int .i64 na1, .int .i64 na2, .int .u64 (na3 : Nat), .string na4, .int .i64 na5, .int .u64 (na6 : Nat), .string na7] 27))
  replace By := hid (By.out.alloc (.cells #[.int .i64 na0, .int .i64 na1, .int .i64 na2, .int .u64 (na3 : Nat), .string na4, .int .i64 na5, .int .u64 (na6 : Nat), .string na7] 27))
  have Bz := hid (Blk.new w4 27 #[.int .i64 na0, .int .i64 na1, .int .i64 na2, .int .u64 (na3 : Nat), .string na4, .int .i64 na5, .int .u64 (na6 : Nat), .string na7])
  obtain ⟨⟨x0, x1, x2, x3⟩, x4, x5, x6, x7⟩ := Bx.out.c8
  obtain ⟨⟨y0, y1, y2, y3⟩, y4, y5, y6, y7⟩ := By.out.c8
  obtain ⟨⟨z0, z1, z2, z3⟩, z4, z5, z6, z7⟩ := Bz.out.c8
  obtain ⟨⟨a0, a1, a2, a3⟩, a4, a5, a6, a7⟩ := Ba.out.c8
  obtain ⟨⟨c0, c1, c2, c3⟩, c4, c5, c6, c7⟩ := Bc.out.c8
  go_wp2_with fail
  refine (G4 _).mono ?_
  rintro e w5 ⟨rfl, hx⟩
  clear x0 x1 x2 x3 x4 x5 x6 x7 y0 y1 y2 y3 y4 y5 y6 y7 z0 z1 z2 z3 z4 z5 z6 z7 a0 a1 a2 a3 a4 a5 a6 a7 c0 c1 c2 c3 c4 c5 c6 c7
  replace X := hid (X.out.then hx)
  replace Ba := hid (Ba.out.keep hx)
  replace Bb := hid (Bb.out.keep hx)
  replace Bc := hid (Bc.out.keep hx)
  replace Bx := hid (Bx.out.keep hx)
  replace By := hid (By.out.keep hx)
  replace Bz := hid (Bz.out.keep hx)
  clear hx
  replace X := hid (Ext.new X.out (.cells #[.int .i64 np0, .int .i64 np1, .int .i64 np2, .int .u64 (np3 : Nat), .string np4, .int .i64 np5, .int .u64 (np6 : Nat), .string np7] 27))
  replace Ba := hid (Ba.out.alloc (.cells #[.int .i64 np0, .int .i64 np1, .int .i64 np2, .int .u64 (np3 : Nat), .string np4, .int .i64 np5, .int .u64 (np6 : Nat), .string np7] 27))
  replace Bb := hid (Bb.out.alloc (.cells #[.int .i64 np0, .int .i64 np1, .int .i64 np2, .int .u64 (np3 : Nat), .string np4, .int .i64 np5, .int .u64 (np6 : Nat), .string np7] 27))
  replace Bc := hid (Bc.out.alloc (.cells #[.int .i64 np0, .int .i64 np1, .int .i64 np2, .int .u64 (np3 : Nat), .string np4, .int .i64 np5, .int .u64 (np6 : Nat), .string np7] 27))
  have Bp := hid (Blk.new w5 27 #[.int .i64 np0, .int .i64 np1, .int .i64 np2, .int .u64 (np3 : Nat), .string np4, .int .i64 np5, .int .u64 (np6 : Nat), .string np7])
  obtain ⟨⟨b0, b1, b2, b3⟩, b4, b5, b6, b7⟩ := Bb.out.c8
  obtain ⟨⟨c0, c1, c2, c3⟩, c4, c5, c6, c7⟩ := Bc.out.c8
  go_wp2_with fail
  refine (G5 _).mono ?_
  rintro e w6 ⟨rfl, hx⟩
  clear b0 b1 b2 b3 b4 b5 b6 b7 c0 c1 c2 c3 c4 c5 c6 c7
  replace X := hid (X.out.then hx)
  replace Ba := hid (Ba.out.keep hx)
  replace Bb := hid (Bb.out.keep hx)
  replace Bc := hid (Bc.out.keep hx)
  replace Bp := hid (Bp.out.keep hx)
  clear hx
  replace X := hid (Ext.new X.out (.cells #[.int .i64 nq0, .int .i64 nq1, .int .i64 nq2, .int .u64 (nq3 : Nat), .string nq4, .int .i64 nq5, .int .u64 (nq6 : Nat), .string nq7] 27))
  replace Ba := hid (Ba.out.alloc (.cells #[.int .i64 nq0, .int .i64 nq1, .int .i64 nq2, .int .u64 (nq3 : Nat), .string nq4, .int .i64 nq5, .int .u64 (nq6 : Nat), .string nq7] 27))
  replace Bb := hid (Bb.out.alloc (.cells #[.int .i64 nq0, .int .i64 nq1, .int .i64 nq2, .int .u64 (nq3 : Nat), .string nq4, .int .i64 nq5, .int .u64 (nq6 : Nat), .string nq7] 27))
  replace Bc := hid (Bc.out.alloc (.cells #[.int .i64 nq0, .int .i64 nq1, .int .i64 nq2, .int .u64 (nq3 : Nat), .string nq4, .int .i64 nq5, .int .u64 (nq6 : Nat), .string nq7] 27))
  replace Bp := hid (Bp.out.alloc (.cells #[.int .i64 nq0, .int .i64 nq1, .int .i64 nq2, .int .u64 (nq3 : Nat), .string nq4, .int .i64 nq5, .int .u64 (nq6 : Nat), .string nq7] 27))
  have Bq := hid (Blk.new w6 27 #[.int .i64 nq0, .int .i64 nq1, .int .i64 nq2, .int .u64 (nq3 : Nat), .string nq4, .int .i64 nq5, .int .u64 (nq6 : Nat), .string nq7])
  go_wp2
  all_goals go_returns
  all_goals exact ⟨rfl, X.out⟩
set_option maxHeartbeats 4000000 in
theorem statsMonoid_k (kind : Int) (a b c x p q : Sta) (w : World) (G1 : Gives Try.prog 19 #[.int .i64 kind, staV a, staV b] (.tuple #[staV x, .int .i64 (0 : Nat)])) (G2 : Gives Try.prog 19 #[.int .i64 kind, staV b, staV a] (.tuple #[staV x, .int .i64 (0 : Nat)])) (G3 : Gives Try.prog 19 #[.int .i64 kind, staV a, staV Cel.SO] (.tuple #[staV a, .int .i64 (0 : Nat)])) (G4 : Gives Try.prog 19 #[.int .i64 kind, staV x, staV c] (.tuple #[staV p, .int .i64 (0 : Nat)])) (G5 : Gives Try.prog 19 #[.int .i64 kind, staV b, staV c] (.tuple #[staV q, .int .i64 (0 : Nat)])) (G6 : Gives Try.prog 19 #[.int .i64 kind, staV a, staV q] (.tuple #[staV p, .int .i64 (0 : Nat)])) :
    Calls Try.prog 6 #[.int .i64 kind, staV a, staV b, staV c] w fun e w' => e = .returned (.bool true) ∧ Ext w w' := by
  dsimp only [staV, Cel.SO, Cel.O] at G1 G2 G3 G4 G5 G6
  obtain ⟨na0, na1, ⟨na2, na3, na4⟩, na5, na6, na7⟩ := a
  obtain ⟨nb0, nb1, ⟨nb2, nb3, nb4⟩, nb5, nb6, nb7⟩ := b
  obtain ⟨nc0, nc1, ⟨nc2, nc3, nc4⟩, nc5, nc6, nc7⟩ := c
  obtain ⟨nx0, nx1, ⟨nx2, nx3, nx4⟩, nx5, nx6, nx7⟩ := x
  obtain ⟨np0, np1, ⟨np2, np3, np4⟩, np5, np6, np7⟩ := p
  obtain ⟨nq0, nq1, ⟨nq2, nq3, nq4⟩, nq5, nq6, nq7⟩ := q
  have X := hid ((((ext_refl w).new (.cells #[.int .i64 na0, .int .i64 na1, .int .i64 na2, .int .u64 (na3 : Nat), .string na4, .int .i64 na5, .int .u64 (na6 : Nat), .string na7] 27)).new (.cells #[.int .i64 nb0, .int .i64 nb1, .int .i64 nb2, .int .u64 (nb3 : Nat), .string nb4, .int .i64 nb5, .int .u64 (nb6 : Nat), .string nb7] 27)).new (.cells #[.int .i64 nc0, .int .i64 nc1, .int .i64 nc2, .int .u64 (nc3 : Nat), .string nc4, .int .i64 nc5, .int .u64 (nc6 : Nat), .string nc7] 27))
  have Ba := hid (((Blk.new w 27 #[.int .i64 na0, .int .i64 na1, .int .i64 na2, .int .u64 (na3 : Nat), .string na4, .int .i64 na5, .int .u64 (na6 : Nat), .string na7]).alloc (.cells #[.int .i64 nb0, .int .i64 nb1, .int .i64 nb2, .int .u64 (nb3 : Nat), .string nb4, .int .i64 nb5, .int .u64 (nb6 : Nat), .string nb7] 27)).alloc (.cells #[.int .i64 nc0, .int .i64 nc1, .int .i64 nc2, .int .u64 (nc3 : Nat), .string nc4, .int .i64 nc5, .int .u64 (nc6 : Nat), .string nc7] 27))
  have Bb := hid ((Blk.newAt (w := (w.alloc (.cells #[.int .i64 na0, .int .i64 na1, .int .i64 na2, .int .u64 (na3 : Nat), .string na4, .int .i64 na5, .int .u64 (na6 : Nat), .string na7] 27))) (g := w.heap.size + 1) (t := 27) (cs := #[.int .i64 nb0, .int .i64 nb1, .int .i64 nb2, .int .u64 (nb3 : Nat), .string nb4, .int .i64 nb5, .int .u64 (nb6 : Nat), .string nb7]) (by simp)).alloc (.cells #[.int .i64 nc0, .int .i64 nc1, .int .i64 nc2, .int .u64 (nc3 : Nat), .string nc4, .int .i64 nc5, .int .u64 (nc6 : Nat), .string nc7] 27))
  have Bc := hid (Blk.newAt (w := ((w.alloc (.cells #[.int .i64 na0, .int .i64 na1, .int .i64 na2, .int .u64 (na3 : Nat), .string na4, .int .i64 na5, .int .u64 (na6 : Nat), .string na7] 27)).alloc (.cells #[.int .i64 nb0, .int .i64 nb1, .int .i64 nb2, .int .u64 (nb3 : Nat), .string nb4, .int .i64 nb5, .int .u64 (nb6 : Nat), .string nb7] 27))) (g := w.heap.size + 1 + 1) (t := 27) (cs := #[.int .i64 nc0, .int .i64 nc1, .int .i64 nc2, .int .u64 (nc3 : Nat), .string nc4, .int .i64 nc5, .int .u64 (nc6 : Nat), .string nc7]) (by simp))
  go_enter Try.func6, Try.ntmps6
  obtain ⟨⟨a0, a1, a2, a3⟩, a4, a5, a6, a7⟩ := Ba.out.c8
  obtain ⟨⟨b0, b1, b2, b3⟩, b4, b5, b6, b7⟩ := Bb.out.c8
  go_wp2_with fail
  refine (G1 _).mono ?_
  rintro e w1 ⟨rfl, hx⟩
  clear a0 a1 a2 a3 a4 a5 a6 a7 b0 b1 b2 b3 b4 b5 b6 b7
  replace X := hid (X.out.then hx)
  replace Ba := hid (Ba.out.keep hx)
  replace Bb := hid (Bb.out.keep hx)
  replace Bc := hid (Bc.out.keep hx)
  clear hx
  replace X := hid (Ext.new X.out (.cells #[.int .i64 nx0, .int .i64 nx1, .int .i64 nx2, .int .u64 (nx3 : Nat), .string nx4, .int .i64 nx5, .int .u64 (nx6 : Nat), .string nx7] 27))
  replace Ba := hid (Ba.out.alloc (.cells #[.int .i64 nx0, .int .i64 nx1, .int .i64 nx2, .int .u64 (nx3 : Nat), .string nx4, .int .i64 nx5, .int .u64 (nx6 : Nat), .string nx7] 27))
  replace Bb := hid (Bb.out.alloc (.cells #[.int .i64 nx0, .int .i64 nx1, .int .i64 nx2, .int .u64 (nx3 : Nat), .string nx4, .int .i64 nx5, .int .u64 (nx6 : Nat), .string nx7] 27))
  replace Bc := hid (Bc.out.alloc (.cells #[.int .i64 nx0, .int .i64 nx1, .int .i64 nx2, .int .u64 (nx3 : Nat), .string nx4, .int .i64 nx5, .int .u64 (nx6 : Nat), .string nx7] 27))
  have Bx := hid (Blk.new w1 27 #[.int .i64 nx0, .int .i64 nx1, .int .i64 nx2, .int .u64 (nx3 : Nat), .string nx4, .int .i64 nx5, .int .u64 (nx6 : Nat), .string nx7])
  obtain ⟨⟨a0, a1, a2, a3⟩, a4, a5, a6, a7⟩ := Ba.out.c8
  obtain ⟨⟨b0, b1, b2, b3⟩, b4, b5, b6, b7⟩ := Bb.out.c8
  go_wp2_with fail
  refine (G2 _).mono ?_
  rintro e w2 ⟨rfl, hx⟩
  clear a0 a1 a2 a3 a4 a5 a6 a7 b0 b1 b2 b3 b4 b5 b6 b7
  replace X := hid (X.out.then hx)
  replace Ba := hid (Ba.out.keep hx)
  replace Bb := hid (Bb.out.keep hx)
  replace Bc := hid (Bc.out.keep hx)
  replace Bx := hid (Bx.out.keep hx)
  clear hx
  replace X := hid (Ext.new X.out (.cells #[.int .i64 nx0, .int .i64 nx1, .int .i64 nx2, .int .u64 (nx3 : Nat), .string nx4, .int .i64 nx5, .int .u64 (nx6 : Nat), .string nx7] 27))
  replace Ba := hid (Ba.out.alloc (.cells #[.int .i64 nx0, .int .i64 nx1, .int .i64 nx2, .int .u64 (nx3 : Nat), .string nx4, .int .i64 nx5, .int .u64 (nx6 : Nat), .string nx7] 27))
  replace Bb := hid (Bb.out.alloc (.cells #[.int .i64 nx0, .int .i64 nx1, .int .i64 nx2, .int .u64 (nx3 : Nat), .string nx4, .int .i64 nx5, .int .u64 (nx6 : Nat), .string nx7] 27))
  replace Bc := hid (Bc.out.alloc (.cells #[.int .i64 nx0, .int .i64 nx1, .int .i64 nx2, .int .u64 (nx3 : Nat), .string nx4, .int .i64 nx5, .int .u64 (nx6 : Nat), .string nx7] 27))
  replace Bx := hid (Bx.out.alloc (.cells #[.int .i64 nx0, .int .i64 nx1, .int .i64 nx2, .int .u64 (nx3 : Nat), .string nx4, .int .i64 nx5, .int .u64 (nx6 : Nat), .string nx7] 27))
  have By := hid (Blk.new w2 27 #[.int .i64 nx0, .int .i64 nx1, .int .i64 nx2, .int .u64 (nx3 : Nat), .string nx4, .int .i64 nx5, .int .u64 (nx6 : Nat), .string nx7])
  go_wp2_with fail
  refine (statsBegun_any _).mono ?_
  rintro e w3 ⟨rfl, hx⟩
  replace X := hid (X.out.then hx)
  replace Ba := hid (Ba.out.keep hx)
  replace Bb := hid (Bb.out.keep hx)
  replace Bc := hid (Bc.out.keep hx)
  replace Bx := hid (Bx.out.keep hx)
  replace By := hid (By.out.keep hx)
  clear hx
  obtain ⟨⟨a0, a1, a2, a3⟩, a4, a5, a6, a7⟩ := Ba.out.c8
  go_wp2_with fail
  refine (G3 _).mono ?_
  rintro e w4 ⟨rfl, hx⟩
  clear a0 a1 a2 a3 a4 a5 a6 a7
  replace X := hid (X.out.then hx)
  replace Ba := hid (Ba.out.keep hx)
  replace Bb := hid (Bb.out.keep hx)
  replace Bc := hid (Bc.out.keep hx)
  replace Bx := hid (Bx.out.keep hx)
  replace By := hid (By.out.keep hx)
  clear hx
  replace X := hid (Ext.new X.out (.cells #[.int .i64 na0, .int .i64 na1, .int .i64 na2, .int .u64 (na3 : Nat), .string na4, .int .i64 na5, .int .u64 (na6 : Nat), .string na7] 27))
  replace Ba := hid (Ba.out.alloc (.cells #[.int .i64 na0, .int .i64 na1, .int .i64 na2, .int .u64 (na3 : Nat), .string na4, .int .i64 na5, .int .u64 (na6 : Nat), .string na7] 27))
  replace Bb := hid (Bb.out.alloc (.cells #[.int .i64 na0, .int .i64 na1, .int .i64 na2, .int .u64 (na3 : Nat), .string na4, .int .i64 na5, .int .u64 (na6 : Nat), .string na7] 27))
  replace Bc := hid (Bc.out.alloc (.cells #[.int .i64 na0, .int .i64 na1, .int .i64 na2, .int .u64 (na3 : Nat), .string na4, .int .i64 na5, .int .u64 (na6 : Nat), .string na7] 27))
  replace Bx := hid (Bx.out.alloc (.cells #[.int .i64 na0, .int .i64 na1, .int .i64 na2, .int .u64 (na3 : Nat), .string na4, .int .i64 na5, .int .u64 (na6 : Nat), .string na7] 27))
  replace By := hid (By.out.alloc (.cells #[.int .i64 na0, .int .i64 na1, .int .i64 na2, .int .u64 (na3 : Nat), .string na4, .int .i64 na5, .int .u64 (na6 : Nat), .string na7] 27))
  have Bz := hid (Blk.new w4 27 #[.int .i64 na0, .int .i64 na1, .int .i64 na2, .int .u64 (na3 : Nat), .string na4, .int .i64 na5, .int .u64 (na6 : Nat), .string na7])
  obtain ⟨⟨x0, x1, x2, x3⟩, x4, x5, x6, x7⟩ := Bx.out.c8
  obtain ⟨⟨y0, y1, y2, y3⟩, y4, y5, y6, y7⟩ := By.out.c8
  obtain ⟨⟨z0, z1, z2, z3⟩, z4, z5, z6, z7⟩ := Bz.out.c8
  obtain ⟨⟨a0, a1, a2, a3⟩, a4, a5, a6, a7⟩ := Ba.out.c8
  obtain ⟨⟨c0, c1, c2, c3⟩, c4, c5, c6, c7⟩ := Bc.out.c8
  go_wp2_with fail
  refine (G4 _).mono ?_
  rintro e w5 ⟨rfl, hx⟩
  clear x0 x1 x2 x3 x4 x5 x6 x7 y0 y1 y2 y3 y4 y5 y6 y7 z0 z1 z2 z3 z4 z5 z6 z7 a0 a1 a2 a3 a4 a5 a6 a7 c0 c1 c2 c3 c4 c5 c6 c7
  replace X := hid (X.out.then hx)
  replace Ba := hid (Ba.out.keep hx)
  replace Bb := hid (Bb.out.keep hx)
  replace Bc := hid (Bc.out.keep hx)
  replace Bx := hid (Bx.out.keep hx)
  replace By := hid (By.out.keep hx)
  replace Bz := hid (Bz.out.keep hx)
  clear hx
  replace X := hid (Ext.new X.out (.cells #[.int .i64 np0, .int .i64 np1, .int .i64 np2, .int .u64 (np3 : Nat), .string np4, .int .i64 np5, .int .u64 (np6 : Nat), .string np7] 27))
  replace Ba := hid (Ba.out.alloc (.cells #[.int .i64 np0, .int .i64 np1, .int .i64 np2, .int .u64 (np3 : Nat), .string np4, .int .i64 np5, .int .u64 (np6 : Nat), .string np7] 27))
  replace Bb := hid (Bb.out.alloc (.cells #[.int .i64 np0, .int .i64 np1, .int .i64 np2, .int .u64 (np3 : Nat), .string np4, .int .i64 np5, .int .u64 (np6 : Nat), .string np7] 27))
  replace Bc := hid (Bc.out.alloc (.cells #[.int .i64 np0, .int .i64 np1, .int .i64 np2, .int .u64 (np3 : Nat), .string np4, .int .i64 np5, .int .u64 (np6 : Nat), .string np7] 27))
  have Bp := hid (Blk.new w5 27 #[.int .i64 np0, .int .i64 np1, .int .i64 np2, .int .u64 (np3 : Nat), .string np4, .int .i64 np5, .int .u64 (np6 : Nat), .string np7])
  obtain ⟨⟨b0, b1, b2, b3⟩, b4, b5, b6, b7⟩ := Bb.out.c8
  obtain ⟨⟨c0, c1, c2, c3⟩, c4, c5, c6, c7⟩ := Bc.out.c8
  go_wp2_with fail
  refine (G5 _).mono ?_
  rintro e w6 ⟨rfl, hx⟩
  clear b0 b1 b2 b3 b4 b5 b6 b7 c0 c1 c2 c3 c4 c5 c6 c7
  replace X := hid (X.out.then hx)
  replace Ba := hid (Ba.out.keep hx)
  replace Bb := hid (Bb.out.keep hx)
  replace Bc := hid (Bc.out.keep hx)
  replace Bp := hid (Bp.out.keep hx)
  clear hx
  replace X := hid (Ext.new X.out (.cells #[.int .i64 nq0, .int .i64 nq1, .int .i64 nq2, .int .u64 (nq3 : Nat), .string nq4, .int .i64 nq5, .int .u64 (nq6 : Nat), .string nq7] 27))
  replace Ba := hid (Ba.out.alloc (.cells #[.int .i64 nq0, .int .i64 nq1, .int .i64 nq2, .int .u64 (nq3 : Nat), .string nq4, .int .i64 nq5, .int .u64 (nq6 : Nat), .string nq7] 27))
  replace Bb := hid (Bb.out.alloc (.cells #[.int .i64 nq0, .int .i64 nq1, .int .i64 nq2, .int .u64 (nq3 : Nat), .string nq4, .int .i64 nq5, .int .u64 (nq6 : Nat), .string nq7] 27))
  replace Bc := hid (Bc.out.alloc (.cells #[.int .i64 nq0, .int .i64 nq1, .int .i64 nq2, .int .u64 (nq3 : Nat), .string nq4, .int .i64 nq5, .int .u64 (nq6 : Nat), .string nq7] 27))
  replace Bp := hid (Bp.out.alloc (.cells #[.int .i64 nq0, .int .i64 nq1, .int .i64 nq2, .int .u64 (nq3 : Nat), .string nq4, .int .i64 nq5, .int .u64 (nq6 : Nat), .string nq7] 27))
  have Bq := hid (Blk.new w6 27 #[.int .i64 nq0, .int .i64 nq1, .int .i64 nq2, .int .u64 (nq3 : Nat), .string nq4, .int .i64 nq5, .int .u64 (nq6 : Nat), .string nq7])
  obtain ⟨⟨a0, a1, a2, a3⟩, a4, a5, a6, a7⟩ := Ba.out.c8
  obtain ⟨⟨q0, q1, q2, q3⟩, q4, q5, q6, q7⟩ := Bq.out.c8
  go_wp2_with fail
  refine (G6 _).mono ?_
  rintro e w7 ⟨rfl, hx⟩
  clear a0 a1 a2 a3 a4 a5 a6 a7 q0 q1 q2 q3 q4 q5 q6 q7
  replace X := hid (X.out.then hx)
  replace Ba := hid (Ba.out.keep hx)
  replace Bb := hid (Bb.out.keep hx)
  replace Bc := hid (Bc.out.keep hx)
  replace Bp := hid (Bp.out.keep hx)
  replace Bq := hid (Bq.out.keep hx)
  clear hx
  replace X := hid (Ext.new X.out (.cells #[.int .i64 np0, .int .i64 np1, .int .i64 np2, .int .u64 (np3 : Nat), .string np4, .int .i64 np5, .int .u64 (np6 : Nat), .string np7] 27))
  replace Ba := hid (Ba.out.alloc (.cells #[.int .i64 np0, .int .i64 np1, .int .i64 np2, .int .u64 (np3 : Nat), .string np4, .int .i64 np5, .int .u64 (np6 : Nat), .string np7] 27))
  replace Bb := hid (Bb.out.alloc (.cells #[.int .i64 np0, .int .i64 np1, .int .i64 np2, .int .u64 (np3 : Nat), .string np4, .int .i64 np5, .int .u64 (np6 : Nat), .string np7] 27))
  replace Bc := hid (Bc.out.alloc (.cells #[.int .i64 np0, .int .i64 np1, .int .i64 np2, .int .u64 (np3 : Nat), .string np4, .int .i64 np5, .int .u64 (np6 : Nat), .string np7] 27))
  replace Bp := hid (Bp.out.alloc (.cells #[.int .i64 np0, .int .i64 np1, .int .i64 np2, .int .u64 (np3 : Nat), .string np4, .int .i64 np5, .int .u64 (np6 : Nat), .string np7] 27))
  replace Bq := hid (Bq.out.alloc (.cells #[.int .i64 np0, .int .i64 np1, .int .i64 np2, .int .u64 (np3 : Nat), .string np4, .int .i64 np5, .int .u64 (np6 : Nat), .string np7] 27))
  have Br := hid (Blk.new w7 27 #[.int .i64 np0, .int .i64 np1, .int .i64 np2, .int .u64 (np3 : Nat), .string np4, .int .i64 np5, .int .u64 (np6 : Nat), .string np7])
  obtain ⟨⟨p0, p1, p2, p3⟩, p4, p5, p6, p7⟩ := Bp.out.c8
  obtain ⟨⟨r0, r1, r2, r3⟩, r4, r5, r6, r7⟩ := Br.out.c8
  go_wp2
  all_goals go_returns
  all_goals exact ⟨rfl, X.out⟩
theorem statsMonoid_walk (kind : Int) (a b c : Sta) (w : World) : Calls Try.prog 6 #[.int .i64 kind, staV a, staV b, staV c] w fun e w' => e = .returned (.bool true) ∧ Ext w w' := by
  obtain ⟨x, n, hx⟩ : ∃ x n, Cel.mg kind a b = (x, n) := ⟨_, _, rfl⟩
  by_cases hn : n = 0
  · subst hn
    obtain ⟨e1, e2, e3⟩ := Cel.monoid (kind := kind) (a := a) (b := b) (by rw [hx]) c
    rw [hx] at e1 e3
    obtain ⟨p, i, hp⟩ : ∃ p i, Cel.mg kind x c = (p, i) := ⟨_, _, rfl⟩
    obtain ⟨q, j, hq⟩ : ∃ q j, Cel.mg kind b c = (q, j) := ⟨_, _, rfl⟩
    by_cases hi : i = 0
    · by_cases hj : j = 0
      · subst hi; subst hj
        simp only [hp, hq] at e3
        exact statsMonoid_k kind a b c x p q w (fun w => by have h := merge_any kind a b w; rw [hx] at h; exact h) (fun w => by have h := merge_any kind b a w; rw [e1] at h; exact h) (fun w => by have h := merge_any kind a Cel.SO w; rw [e2] at h; exact h) (fun w => by have h := merge_any kind x c w; rw [hp] at h; exact h) (fun w => by have h := merge_any kind b c w; rw [hq] at h; exact h) (fun w => by have h := merge_any kind a q w; rw [e3 trivial trivial] at h; exact h)
      · exact statsMonoid_j kind a b c x p q w i j (by simp [hi]) (by simp; omega) (fun w => by have h := merge_any kind a b w; rw [hx] at h; exact h) (fun w => by have h := merge_any kind b a w; rw [e1] at h; exact h) (fun w => by have h := merge_any kind a Cel.SO w; rw [e2] at h; exact h) (fun w => by have h := merge_any kind x c w; rw [hp] at h; exact h) (fun w => by have h := merge_any kind b c w; rw [hq] at h; exact h)
    · exact statsMonoid_i kind a b c x p q w i j (by simp; omega) (fun w => by have h := merge_any kind a b w; rw [hx] at h; exact h) (fun w => by have h := merge_any kind b a w; rw [e1] at h; exact h) (fun w => by have h := merge_any kind a Cel.SO w; rw [e2] at h; exact h) (fun w => by have h := merge_any kind x c w; rw [hp] at h; exact h) (fun w => by have h := merge_any kind b c w; rw [hq] at h; exact h)
  · have hxe : x = Cel.SO := by
      rcases Cel.mg_eq (kind := kind) (a := a) (b := b) with ⟨e, -⟩ | ⟨e, e'⟩
      · rw [hx] at e; exact absurd e hn
      · rw [hx] at e'; exact e'
    subst hxe
    obtain ⟨y, m, hy⟩ : ∃ y m, Cel.mg kind b a = (y, m) := ⟨_, _, rfl⟩
    exact statsMonoid_no kind a b c y w n m (by simp; omega) (fun w => by have h := merge_any kind a b w; rw [hx] at h; exact h) (fun w => by have h := merge_any kind b a w; rw [hy] at h; exact h)
end Go.Proofs.Ytikdmnedbfpkeaa
