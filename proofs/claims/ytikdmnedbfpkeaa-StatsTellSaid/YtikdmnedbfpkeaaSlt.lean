/- StatsTell: the walk. -/
import Derived.Test.YtikdmnedbfpkeaaStm
import Derived.Test.YtikdmnedbfpkeaaStq
namespace Go.Proofs.Ytikdmnedbfpkeaa
open Go.RowKit Hy
set_option maxHeartbeats 4000000 in
theorem statsTell_yes (kind : Int) (A : Option Addr) (n cap k : Nat) (s x : Sta) (w : World) (GO : ∀ w', Ext w w' → Calls Try.prog 13 #[.int .i64 kind, .slice A n cap] w' fun e w'' => e = .returned (.tuple #[staV x, .int .i64 0]) ∧ Ext w' w'') (GC : ∀ w', Ext w w' → Calls Try.prog 14 #[.int .i64 kind, .slice A n cap] w' fun e w'' => e = .returned (.int .i64 0) ∧ Ext w' w'') (GK : ∀ w', Ext w w' → Calls Try.prog 15 #[.slice A n cap] w' fun e w'' => e = .returned (staV x) ∧ Ext w' w'')
    (GS : Gives Try.prog 17 #[.int .i64 kind, staV s] (.int .i64 (k : Nat))) (GT : Gives Try.prog 18 #[.int .i64 kind, staV s] (.int .i64 (k : Nat))) :
    Calls Try.prog 3 #[.int .i64 kind, .slice A n cap, staV s] w fun e w' => e = .returned (.bool true) ∧ Ext w w' := by
  dsimp only [staV] at GO GS GT
  dsimp only [staV] at GK
  obtain ⟨ns0, ns1, ⟨ns2, ns3, ns4⟩, ns5, ns6, ns7⟩ := s
  obtain ⟨nx0, nx1, ⟨nx2, nx3, nx4⟩, nx5, nx6, nx7⟩ := x
  have GB : Gives Try.prog 16 #[] (.bool true) := fun w => statsBegun_any w
  have X := hid ((ext_refl w).new (.cells #[.int .i64 ns0, .int .i64 ns1, .int .i64 ns2, .int .u64 (ns3 : Nat), .string ns4, .int .i64 ns5, .int .u64 (ns6 : Nat), .string ns7] 27))
  have Bs := hid (Blk.new w 27 #[.int .i64 ns0, .int .i64 ns1, .int .i64 ns2, .int .u64 (ns3 : Nat), .string ns4, .int .i64 ns5, .int .u64 (ns6 : Nat), .string ns7])
  go_enter Try.func3, Try.ntmps3
  go_wp2_with fail
  refine Calls.mono (GO _ X.out) ?_
  rintro e w1 ⟨rfl, hx⟩
  replace X := hid (X.out.then hx)
  replace Bs := hid (Bs.out.keep hx)
  clear hx
  replace X := hid (Ext.new X.out (.cells #[.int .i64 nx0, .int .i64 nx1, .int .i64 nx2, .int .u64 (nx3 : Nat), .string nx4, .int .i64 nx5, .int .u64 (nx6 : Nat), .string nx7] 27))
  replace Bs := hid (Bs.out.alloc (.cells #[.int .i64 nx0, .int .i64 nx1, .int .i64 nx2, .int .u64 (nx3 : Nat), .string nx4, .int .i64 nx5, .int .u64 (nx6 : Nat), .string nx7] 27))
  have Bx := hid (Blk.new w1 27 #[.int .i64 nx0, .int .i64 nx1, .int .i64 nx2, .int .u64 (nx3 : Nat), .string nx4, .int .i64 nx5, .int .u64 (nx6 : Nat), .string nx7])
  go_wp2_with fail
  refine Calls.mono (GC _ X.out) ?_
  rintro e w2 ⟨rfl, hx⟩
  replace X := hid (X.out.then hx)
  replace Bs := hid (Bs.out.keep hx)
  replace Bx := hid (Bx.out.keep hx)
  clear hx
  have HXY := hid Bx.out.lt
  have HSY := hid Bs.out.lt
  replace X := hid (Ext.new X.out (.cells #[.int .i64 0, .int .i64 0, .int .i64 0, .int .u64 0, .string ⟨#[]⟩, .int .i64 0, .int .u64 0, .string ⟨#[]⟩] 27))
  replace Bs := hid (Bs.out.alloc (.cells #[.int .i64 0, .int .i64 0, .int .i64 0, .int .u64 0, .string ⟨#[]⟩, .int .i64 0, .int .u64 0, .string ⟨#[]⟩] 27))
  replace Bx := hid (Bx.out.alloc (.cells #[.int .i64 0, .int .i64 0, .int .i64 0, .int .u64 0, .string ⟨#[]⟩, .int .i64 0, .int .u64 0, .string ⟨#[]⟩] 27))
  have By := hid (Blk.new w2 27 #[.int .i64 0, .int .i64 0, .int .i64 0, .int .u64 0, .string ⟨#[]⟩, .int .i64 0, .int .u64 0, .string ⟨#[]⟩])
  go_wp2_with fail
  refine Calls.mono (GK _ X.out) ?_
  rintro e w3 ⟨rfl, hx⟩
  replace X := hid (X.out.then hx)
  replace Bs := hid (Bs.out.keep hx)
  replace Bx := hid (Bx.out.keep hx)
  replace By := hid (By.out.keep hx)
  clear hx
  have HL := hid (Nat.le_of_lt (Nat.lt_of_le_of_lt (Nat.le_refl _) HSY.out))
  go_wp2_with (with_reducible (show wpList _ _ _ (⟨none, .store 27 (.tmp 10) (.tmp 23), _, _, _, _⟩ :: _) _ _); go_loud (refine wpList_store_blk rfl 27 (.tmp 10) (.tmp 23) rfl w2.heap.size #[.int .i64 nx0, .int .i64 nx1, .int .i64 nx2, .int .u64 (nx3 : Nat), .string nx4, .int .i64 nx5, .int .u64 (nx6 : Nat), .string nx7] rfl rfl 27 _ By.out (by kernel_rfl) rfl (staA_one (nx0, nx1, (nx2, nx3, nx4), nx5, nx6, nx7)) w.heap.size HL.out ?_; intro w4 hB4 hF4 hL4; replace By := hid hB4; replace Bx := hid (hF4 _ _ _ (Nat.ne_of_lt HXY.out) Bx.out); replace Bs := hid (hF4 _ _ _ (Nat.ne_of_lt HSY.out) Bs.out); replace X : Hid (Ext w w4) := hid (Below.trans X.out hL4); clear hB4 hF4 hL4))
  obtain ⟨⟨x0, x1, x2, x3⟩, x4, x5, x6, x7⟩ := Bx.out.c8
  obtain ⟨⟨y0, y1, y2, y3⟩, y4, y5, y6, y7⟩ := By.out.c8
  obtain ⟨⟨s0, s1, s2, s3⟩, s4, s5, s6, s7⟩ := Bs.out.c8
  have x0r := cell_regrown x0
  have x1r := cell_regrown x1
  have x2r := cell_regrown x2
  have x3r := cell_regrown x3
  have x4r := cell_regrown x4
  have x5r := cell_regrown x5
  have x6r := cell_regrown x6
  have x7r := cell_regrown x7
  have y0r := cell_regrown y0
  have y1r := cell_regrown y1
  have y2r := cell_regrown y2
  have y3r := cell_regrown y3
  have y4r := cell_regrown y4
  have y5r := cell_regrown y5
  have y6r := cell_regrown y6
  have y7r := cell_regrown y7
  have s0r := cell_regrown s0
  have s1r := cell_regrown s1
  have s2r := cell_regrown s2
  have s3r := cell_regrown s3
  have s4r := cell_regrown s4
  have s5r := cell_regrown s5
  have s6r := cell_regrown s6
  have s7r := cell_regrown s7
  go_wp2_with fail
  simp only [Act.put]
  refine wp_region_quiet_below (by kernel_rfl) (by kernel_rfl) ?_
  repeat (go_big_quiet_step (first | (go_at_call 16; with_reducible exact GB.quiet _ _ _) | (go_at_call 17; with_reducible exact GS.quiet _ _ _) | (go_at_call 18; with_reducible exact GT.quiet _ _ _)))
  refine wpQuiet_nil ?_
  intro w9 hw9
  replace X := hid (X.out.then (show Ext _ w9 from by obtain ⟨p, rfl⟩ := hw9; exact ext_regrown _ p))
  clear hw9
  clear x0r x1r x2r x3r x4r x5r x6r x7r
  clear y0r y1r y2r y3r y4r y5r y6r y7r
  clear s0r s1r s2r s3r s4r s5r s6r s7r
  clear x0 x1 x2 x3 x4 x5 x6 x7 y0 y1 y2 y3 y4 y5 y6 y7 s0 s1 s2 s3 s4 s5 s6 s7
  go_wp2
  all_goals go_returns
  all_goals exact ⟨rfl, X.out⟩
set_option maxHeartbeats 4000000 in
theorem statsTell_no (kind : Int) (A : Option Addr) (n cap k : Nat) (s : Sta) (w : World) (c : Nat) (c1 : ((c : Int) == 0) = false) (GO : ∀ w', Ext w w' → Calls Try.prog 13 #[.int .i64 kind, .slice A n cap] w' fun e w'' => e = .returned (.tuple #[.agg #[.int .i64 0, .int .i64 0, .int .i64 0, .int .u64 0, .string .empty, .int .i64 0, .int .u64 0, .string .empty], .int .i64 (c : Nat)]) ∧ Ext w' w'') (GC : ∀ w', Ext w w' → Calls Try.prog 14 #[.int .i64 kind, .slice A n cap] w' fun e w'' => e = .returned (.int .i64 (c : Nat)) ∧ Ext w' w'')
    (GS : Gives Try.prog 17 #[.int .i64 kind, staV s] (.int .i64 (k : Nat))) (GT : Gives Try.prog 18 #[.int .i64 kind, staV s] (.int .i64 (k : Nat))) :
    Calls Try.prog 3 #[.int .i64 kind, .slice A n cap, staV s] w fun e w' => e = .returned (.bool true) ∧ Ext w w' := by
  dsimp only [staV] at GO GS GT
  obtain ⟨ns0, ns1, ⟨ns2, ns3, ns4⟩, ns5, ns6, ns7⟩ := s
  have GB : Gives Try.prog 16 #[] (.bool true) := fun w => statsBegun_any w
  have X := hid ((ext_refl w).new (.cells #[.int .i64 ns0, .int .i64 ns1, .int .i64 ns2, .int .u64 (ns3 : Nat), .string ns4, .int .i64 ns5, .int .u64 (ns6 : Nat), .string ns7] 27))
  have Bs := hid (Blk.new w 27 #[.int .i64 ns0, .int .i64 ns1, .int .i64 ns2, .int .u64 (ns3 : Nat), .string ns4, .int .i64 ns5, .int .u64 (ns6 : Nat), .string ns7])
  go_enter Try.func3, Try.ntmps3
  go_wp2_with fail
  refine Calls.mono (GO _ X.out) ?_
  rintro e w1 ⟨rfl, hx⟩
  replace X := hid (X.out.then hx)
  replace Bs := hid (Bs.out.keep hx)
  clear hx
  replace X := hid (Ext.new X.out (.cells #[.int .i64 0, .int .i64 0, .int .i64 0, .int .u64 0, .string .empty, .int .i64 0, .int .u64 0, .string .empty] 27))
  replace Bs := hid (Bs.out.alloc (.cells #[.int .i64 0, .int .i64 0, .int .i64 0, .int .u64 0, .string .empty, .int .i64 0, .int .u64 0, .string .empty] 27))
  have Bx := hid (Blk.new w1 27 #[.int .i64 0, .int .i64 0, .int .i64 0, .int .u64 0, .string .empty, .int .i64 0, .int .u64 0, .string .empty])
  go_wp2_with fail
  refine Calls.mono (GC _ X.out) ?_
  rintro e w2 ⟨rfl, hx⟩
  replace X := hid (X.out.then hx)
  replace Bs := hid (Bs.out.keep hx)
  replace Bx := hid (Bx.out.keep hx)
  clear hx
  replace X := hid (Ext.new X.out (.cells #[.int .i64 0, .int .i64 0, .int .i64 0, .int .u64 0, .string ⟨#[]⟩, .int .i64 0, .int .u64 0, .string ⟨#[]⟩] 27))
  replace Bs := hid (Bs.out.alloc (.cells #[.int .i64 0, .int .i64 0, .int .i64 0, .int .u64 0, .string ⟨#[]⟩, .int .i64 0, .int .u64 0, .string ⟨#[]⟩] 27))
  replace Bx := hid (Bx.out.alloc (.cells #[.int .i64 0, .int .i64 0, .int .i64 0, .int .u64 0, .string ⟨#[]⟩, .int .i64 0, .int .u64 0, .string ⟨#[]⟩] 27))
  have By := hid (Blk.new w2 27 #[.int .i64 0, .int .i64 0, .int .i64 0, .int .u64 0, .string ⟨#[]⟩, .int .i64 0, .int .u64 0, .string ⟨#[]⟩])
  obtain ⟨⟨x0, x1, x2, x3⟩, x4, x5, x6, x7⟩ := Bx.out.c8
  obtain ⟨⟨y0, y1, y2, y3⟩, y4, y5, y6, y7⟩ := By.out.c8
  obtain ⟨⟨s0, s1, s2, s3⟩, s4, s5, s6, s7⟩ := Bs.out.c8
  have x0r := cell_regrown x0
  have x1r := cell_regrown x1
  have x2r := cell_regrown x2
  have x3r := cell_regrown x3
  have x4r := cell_regrown x4
  have x5r := cell_regrown x5
  have x6r := cell_regrown x6
  have x7r := cell_regrown x7
  have y0r := cell_regrown y0
  have y1r := cell_regrown y1
  have y2r := cell_regrown y2
  have y3r := cell_regrown y3
  have y4r := cell_regrown y4
  have y5r := cell_regrown y5
  have y6r := cell_regrown y6
  have y7r := cell_regrown y7
  have s0r := cell_regrown s0
  have s1r := cell_regrown s1
  have s2r := cell_regrown s2
  have s3r := cell_regrown s3
  have s4r := cell_regrown s4
  have s5r := cell_regrown s5
  have s6r := cell_regrown s6
  have s7r := cell_regrown s7
  go_wp2_with fail
  refine wp_region_quiet_below (by kernel_rfl) (by kernel_rfl) ?_
  repeat (go_big_quiet_step (first | (go_at_call 16; with_reducible exact GB.quiet _ _ _) | (go_at_call 17; with_reducible exact GS.quiet _ _ _) | (go_at_call 18; with_reducible exact GT.quiet _ _ _)))
  refine wpQuiet_nil ?_
  intro w9 hw9
  replace X := hid (X.out.then (show Ext _ w9 from by obtain ⟨p, rfl⟩ := hw9; exact ext_regrown _ p))
  clear hw9
  clear x0r x1r x2r x3r x4r x5r x6r x7r
  clear y0r y1r y2r y3r y4r y5r y6r y7r
  clear s0r s1r s2r s3r s4r s5r s6r s7r
  clear x0 x1 x2 x3 x4 x5 x6 x7 y0 y1 y2 y3 y4 y5 y6 y7 s0 s1 s2 s3 s4 s5 s6 s7
  go_wp2
  all_goals go_returns
  all_goals exact ⟨rfl, X.out⟩
theorem statsTell_walk (kind : Int) (l : List Cel) (s : Sta) (A : Option Addr) (n cap : Nat) (w : World) (hn : l.length = n) (hr : Rd w A (cls l)) (hnl : n ≤ 140737488355328) (hsz : ∀ c ∈ l, c.2.2.size ≤ 140737488355328) :
    Calls Try.prog 3 #[.int .i64 kind, .slice A n cap, staV s] w fun e w' => e = .returned (.bool true) ∧ Ext w w' := by
  have GO := fun w' (hx : Ext w w') => of_any kind l A n cap w' hn (hr.keep hx) hnl
  have GC := fun w' (hx : Ext w w') => cellsCheck_any kind l A n cap w' hn (hr.keep hx) hnl
  by_cases hc : Cel.cchk kind l = 0
  · have h64 := (Cel.cchk_iff.1 hc).2.1
    have GK := fun w' (hx : Ext w w') => knownOf_any l A n cap w' hn (hr.keep hx) (by omega) hsz
    rw [Cel.known_rawS l (Cel.cchk_ok hc)] at GK
    rw [if_pos hc, hc] at GO
    rw [hc] at GC
    exact statsTell_yes kind A n cap _ s _ w GO GC GK (statsCheck_any kind s) (knownCheck_any kind s)
  · rw [if_neg hc] at GO
    exact statsTell_no kind A n cap _ s w _ (by simp; omega) GO GC (statsCheck_any kind s) (knownCheck_any kind s)
end Go.Proofs.Ytikdmnedbfpkeaa
