/- StatsWhole: the walk. -/
import Derived.Test.YtikdmnedbfpkeaaStm
import Derived.Test.YtikdmnedbfpkeaaStq
import Derived.Test.YtikdmnedbfpkeaaSli
namespace Go.Proofs.Ytikdmnedbfpkeaa
open Go.RowKit Hy
set_option maxHeartbeats 4000000 in
theorem statsWhole_no (kind : Int) (A : Option Addr) (n cap : Nat) (k : Int) (c : Nat) (w : World) (c1 : ((c : Int) == 0) = false) (c2 : ((c : Int) != 0) = true) (GO : ∀ w', Ext w w' → Calls Try.prog 13 #[.int .i64 kind, .slice A n cap] w' fun e w'' => e = .returned (.tuple #[.agg #[.int .i64 0, .int .i64 0, .int .i64 0, .int .u64 0, .string .empty, .int .i64 0, .int .u64 0, .string .empty], .int .i64 (c : Nat)]) ∧ Ext w' w'') :
    Calls Try.prog 5 #[.int .i64 kind, .slice A n cap, .int .i64 k] w fun e w' => e = .returned (.bool true) ∧ Ext w w' := by
  have X := hid (ext_refl w)
  go_enter Try.func5, Try.ntmps5
  go_wp2_with fail
  refine Calls.mono (GO _ X.out) ?_
  rintro e w1 ⟨rfl, hx⟩
  replace X := hid (X.out.then hx)
  clear hx
  replace X := hid (Ext.new X.out (.cells #[.int .i64 0, .int .i64 0, .int .i64 0, .int .u64 0, .string .empty, .int .i64 0, .int .u64 0, .string .empty] 27))
  have Bx := hid (Blk.new w1 27 #[.int .i64 0, .int .i64 0, .int .i64 0, .int .u64 0, .string .empty, .int .i64 0, .int .u64 0, .string .empty])
  go_wp2_with fail
  refine Calls.mono (statsBegun_any _) ?_
  rintro e w2 ⟨rfl, hx⟩
  replace X := hid (X.out.then hx)
  replace Bx := hid (Bx.out.keep hx)
  clear hx
  obtain ⟨⟨x0, x1, x2, x3⟩, x4, x5, x6, x7⟩ := Bx.out.c8
  go_wp2
  all_goals go_returns
  all_goals exact ⟨rfl, X.out⟩
set_option maxHeartbeats 4000000 in
theorem statsWhole_lo (kind : Int) (A : Option Addr) (n cap : Nat) (k : Int) (x : Sta) (w : World) (hk : k < 0) (GO : ∀ w', Ext w w' → Calls Try.prog 13 #[.int .i64 kind, .slice A n cap] w' fun e w'' => e = .returned (.tuple #[staV x, .int .i64 0]) ∧ Ext w' w'') :
    Calls Try.prog 5 #[.int .i64 kind, .slice A n cap, .int .i64 k] w fun e w' => e = .returned (.bool true) ∧ Ext w w' := by
  dsimp only [staV] at GO
  obtain ⟨nx0, nx1, ⟨nx2, nx3, nx4⟩, nx5, nx6, nx7⟩ := x
  dsimp only at GO
  have X := hid (ext_refl w)
  go_enter Try.func5, Try.ntmps5
  go_wp2_with fail
  refine Calls.mono (GO _ X.out) ?_
  rintro e w1 ⟨rfl, hx⟩
  replace X := hid (X.out.then hx)
  clear hx
  replace X := hid (Ext.new X.out (.cells #[.int .i64 nx0, .int .i64 nx1, .int .i64 nx2, .int .u64 (nx3 : Nat), .string nx4, .int .i64 nx5, .int .u64 (nx6 : Nat), .string nx7] 27))
  have Bx := hid (Blk.new w1 27 #[.int .i64 nx0, .int .i64 nx1, .int .i64 nx2, .int .u64 (nx3 : Nat), .string nx4, .int .i64 nx5, .int .u64 (nx6 : Nat), .string nx7])
  go_wp2_with fail
  refine Calls.mono (statsBegun_any _) ?_
  rintro e w2 ⟨rfl, hx⟩
  replace X := hid (X.out.then hx)
  replace Bx := hid (Bx.out.keep hx)
  clear hx
  obtain ⟨⟨x0, x1, x2, x3⟩, x4, x5, x6, x7⟩ := Bx.out.c8
  go_wp2
  all_goals go_returns
  all_goals exact ⟨rfl, X.out⟩
set_option maxHeartbeats 4000000 in
theorem statsWhole_hi (kind : Int) (A : Option Addr) (n cap : Nat) (k : Int) (x : Sta) (w : World) (hk : 0 ≤ k) (hk' : (n : Int) < k) (GO : ∀ w', Ext w w' → Calls Try.prog 13 #[.int .i64 kind, .slice A n cap] w' fun e w'' => e = .returned (.tuple #[staV x, .int .i64 0]) ∧ Ext w' w'') :
    Calls Try.prog 5 #[.int .i64 kind, .slice A n cap, .int .i64 k] w fun e w' => e = .returned (.bool true) ∧ Ext w w' := by
  dsimp only [staV] at GO
  obtain ⟨nx0, nx1, ⟨nx2, nx3, nx4⟩, nx5, nx6, nx7⟩ := x
  dsimp only at GO
  have X := hid (ext_refl w)
  go_enter Try.func5, Try.ntmps5
  go_wp2_with fail
  refine Calls.mono (GO _ X.out) ?_
  rintro e w1 ⟨rfl, hx⟩
  replace X := hid (X.out.then hx)
  clear hx
  replace X := hid (Ext.new X.out (.cells #[.int .i64 nx0, .int .i64 nx1, .int .i64 nx2, .int .u64 (nx3 : Nat), .string nx4, .int .i64 nx5, .int .u64 (nx6 : Nat), .string nx7] 27))
  have Bx := hid (Blk.new w1 27 #[.int .i64 nx0, .int .i64 nx1, .int .i64 nx2, .int .u64 (nx3 : Nat), .string nx4, .int .i64 nx5, .int .u64 (nx6 : Nat), .string nx7])
  go_wp2_with fail
  refine Calls.mono (statsBegun_any _) ?_
  rintro e w2 ⟨rfl, hx⟩
  replace X := hid (X.out.then hx)
  replace Bx := hid (Bx.out.keep hx)
  clear hx
  obtain ⟨⟨x0, x1, x2, x3⟩, x4, x5, x6, x7⟩ := Bx.out.c8
  go_wp2
  all_goals go_returns
  all_goals exact ⟨rfl, X.out⟩
set_option maxHeartbeats 4000000 in
theorem statsWhole_in (kind : Int) (A : Option Addr) (n cap : Nat) (k : Nat) (x y z : Sta) (w : World) (hcap : n ≤ cap) (hk : k ≤ n) (GO : ∀ w', Ext w w' → Calls Try.prog 13 #[.int .i64 kind, .slice A n cap] w' fun e w'' => e = .returned (.tuple #[staV x, .int .i64 0]) ∧ Ext w' w'') (GY : ∀ w', Ext w w' → Calls Try.prog 13 #[.int .i64 kind, .slice A k cap] w' fun e w'' => e = .returned (.tuple #[staV y, .int .i64 0]) ∧ Ext w' w'') (GZ : ∀ w', Ext w w' → Calls Try.prog 13 #[.int .i64 kind, .slice (slF A k cap 3) (n - k) (cap - k)] w' fun e w'' => e = .returned (.tuple #[staV z, .int .i64 0]) ∧ Ext w' w'') (GM : Gives Try.prog 19 #[.int .i64 kind, staV y, staV z] (.tuple #[staV x, .int .i64 0])) :
    Calls Try.prog 5 #[.int .i64 kind, .slice A n cap, .int .i64 k] w fun e w' => e = .returned (.bool true) ∧ Ext w w' := by
  dsimp only [staV] at GO GY GZ GM
  obtain ⟨nx0, nx1, ⟨nx2, nx3, nx4⟩, nx5, nx6, nx7⟩ := x
  obtain ⟨ny0, ny1, ⟨ny2, ny3, ny4⟩, ny5, ny6, ny7⟩ := y
  obtain ⟨nz0, nz1, ⟨nz2, nz3, nz4⟩, nz5, nz6, nz7⟩ := z
  dsimp only at GO GY GZ GM
  have hT := fun wx : World => sl_to (P := Try.prog) (t := 22) (e := 25) (m := 3) Try.underlying22 (by kernel_rfl) A n cap .i64 k (by omega) wx
  have hF := fun wx : World => sl_from (P := Try.prog) (t := 22) (e := 25) (m := 3) Try.underlying22 (by kernel_rfl) A n cap .i64 k hk wx
  have hk0 : (0 : Int) ≤ (k : Int) := by omega
  have hkn : (k : Int) ≤ (n : Int) := by omega
  have hkc : (k : Int) ≤ (cap : Int) := by omega
  obtain ⟨B, hB⟩ : ∃ B, B = slF A k cap 3 := ⟨_, rfl⟩
  obtain ⟨m, hm⟩ : ∃ m, m = n - k := ⟨_, rfl⟩
  obtain ⟨c', hc'⟩ : ∃ c', c' = cap - k := ⟨_, rfl⟩
  rw [← hB, ← hm, ← hc'] at hF GZ
  clear hB hm hc' hcap hk
  have X := hid (ext_refl w)
  go_enter Try.func5, Try.ntmps5
  go_wp2_with fail
  refine Calls.mono (GO _ X.out) ?_
  rintro e w1 ⟨rfl, hx⟩
  replace X := hid (X.out.then hx)
  clear hx
  replace X := hid (Ext.new X.out (.cells #[.int .i64 nx0, .int .i64 nx1, .int .i64 nx2, .int .u64 (nx3 : Nat), .string nx4, .int .i64 nx5, .int .u64 (nx6 : Nat), .string nx7] 27))
  have Bx := hid (Blk.new w1 27 #[.int .i64 nx0, .int .i64 nx1, .int .i64 nx2, .int .u64 (nx3 : Nat), .string nx4, .int .i64 nx5, .int .u64 (nx6 : Nat), .string nx7])
  go_wp2_with fail
  refine Calls.mono (statsBegun_any _) ?_
  rintro e w2 ⟨rfl, hx⟩
  replace X := hid (X.out.then hx)
  replace Bx := hid (Bx.out.keep hx)
  clear hx
  go_wp2_with fail
  refine Calls.mono (GY _ X.out) ?_
  rintro e w3 ⟨rfl, hx⟩
  replace X := hid (X.out.then hx)
  replace Bx := hid (Bx.out.keep hx)
  clear hx
  replace X := hid (Ext.new X.out (.cells #[.int .i64 ny0, .int .i64 ny1, .int .i64 ny2, .int .u64 (ny3 : Nat), .string ny4, .int .i64 ny5, .int .u64 (ny6 : Nat), .string ny7] 27))
  replace Bx := hid (Bx.out.alloc (.cells #[.int .i64 ny0, .int .i64 ny1, .int .i64 ny2, .int .u64 (ny3 : Nat), .string ny4, .int .i64 ny5, .int .u64 (ny6 : Nat), .string ny7] 27))
  have By := hid (Blk.new w3 27 #[.int .i64 ny0, .int .i64 ny1, .int .i64 ny2, .int .u64 (ny3 : Nat), .string ny4, .int .i64 ny5, .int .u64 (ny6 : Nat), .string ny7])
  go_wp2_with fail
  refine Calls.mono (GZ _ X.out) ?_
  rintro e w4 ⟨rfl, hx⟩
  replace X := hid (X.out.then hx)
  replace Bx := hid (Bx.out.keep hx)
  replace By := hid (By.out.keep hx)
  clear hx
  replace X := hid (Ext.new X.out (.cells #[.int .i64 nz0, .int .i64 nz1, .int .i64 nz2, .int .u64 (nz3 : Nat), .string nz4, .int .i64 nz5, .int .u64 (nz6 : Nat), .string nz7] 27))
  replace Bx := hid (Bx.out.alloc (.cells #[.int .i64 nz0, .int .i64 nz1, .int .i64 nz2, .int .u64 (nz3 : Nat), .string nz4, .int .i64 nz5, .int .u64 (nz6 : Nat), .string nz7] 27))
  replace By := hid (By.out.alloc (.cells #[.int .i64 nz0, .int .i64 nz1, .int .i64 nz2, .int .u64 (nz3 : Nat), .string nz4, .int .i64 nz5, .int .u64 (nz6 : Nat), .string nz7] 27))
  have Bz := hid (Blk.new w4 27 #[.int .i64 nz0, .int .i64 nz1, .int .i64 nz2, .int .u64 (nz3 : Nat), .string nz4, .int .i64 nz5, .int .u64 (nz6 : Nat), .string nz7])
  obtain ⟨⟨y0, y1, y2, y3⟩, y4, y5, y6, y7⟩ := By.out.c8
  obtain ⟨⟨z0, z1, z2, z3⟩, z4, z5, z6, z7⟩ := Bz.out.c8
  go_wp2_with fail
  refine Calls.mono (GM _) ?_
  rintro e w5 ⟨rfl, hx⟩
  clear y0 y1 y2 y3 y4 y5 y6 y7 z0 z1 z2 z3 z4 z5 z6 z7
  replace X := hid (X.out.then hx)
  replace Bx := hid (Bx.out.keep hx)
  replace By := hid (By.out.keep hx)
  replace Bz := hid (Bz.out.keep hx)
  clear hx
  replace X := hid (Ext.new X.out (.cells #[.int .i64 nx0, .int .i64 nx1, .int .i64 nx2, .int .u64 (nx3 : Nat), .string nx4, .int .i64 nx5, .int .u64 (nx6 : Nat), .string nx7] 27))
  replace Bx := hid (Bx.out.alloc (.cells #[.int .i64 nx0, .int .i64 nx1, .int .i64 nx2, .int .u64 (nx3 : Nat), .string nx4, .int .i64 nx5, .int .u64 (nx6 : Nat), .string nx7] 27))
  replace By := hid (By.out.alloc (.cells #[.int .i64 nx0, .int .i64 nx1, .int .i64 nx2, .int .u64 (nx3 : Nat), .string nx4, .int .i64 nx5, .int .u64 (nx6 : Nat), .string nx7] 27))
  replace Bz := hid (Bz.out.alloc (.cells #[.int .i64 nx0, .int .i64 nx1, .int .i64 nx2, .int .u64 (nx3 : Nat), .string nx4, .int .i64 nx5, .int .u64 (nx6 : Nat), .string nx7] 27))
  have Br := hid (Blk.new w5 27 #[.int .i64 nx0, .int .i64 nx1, .int .i64 nx2, .int .u64 (nx3 : Nat), .string nx4, .int .i64 nx5, .int .u64 (nx6 : Nat), .string nx7])
  obtain ⟨⟨x0, x1, x2, x3⟩, x4, x5, x6, x7⟩ := Bx.out.c8
  obtain ⟨⟨r0, r1, r2, r3⟩, r4, r5, r6, r7⟩ := Br.out.c8
  go_wp2
  all_goals go_returns
  all_goals exact ⟨rfl, X.out⟩
theorem statsWhole_walk (kind : Int) (l : List Cel) (k : Int) (A : Option Addr) (n cap : Nat) (w : World) (hn : l.length = n) (hr : Rd w A (cls l)) (hnl : n ≤ 140737488355328) (hcap : n ≤ cap) :
    Calls Try.prog 5 #[.int .i64 kind, .slice A n cap, .int .i64 k] w fun e w' => e = .returned (.bool true) ∧ Ext w w' := by
  have GO := fun w' (hx : Ext w w') => of_any kind l A n cap w' hn (hr.keep hx) hnl
  by_cases hc : Cel.cchk kind l = 0
  · rw [if_pos hc, hc] at GO
    by_cases h0 : k < 0
    · exact statsWhole_lo kind A n cap k _ w h0 GO
    · by_cases h1 : (n : Int) < k
      · exact statsWhole_hi kind A n cap k _ w (by omega) h1 GO
      · obtain ⟨j, rfl⟩ : ∃ j : Nat, k = j := ⟨k.toNat, by omega⟩
        obtain ⟨e1, e2, e3⟩ := Cel.whole hc j (by omega)
        have GY := fun w' (hx : Ext w w') => of_any kind (l.take j) A j cap w' (by rw [List.length_take]; omega) ((Rd.take (f := cel3) hr j).keep hx) (by omega)
        have GZ := fun w' (hx : Ext w w') => of_any kind (l.drop j) (slF A j cap 3) (n - j) (cap - j) w' (by rw [List.length_drop]; omega) ((Rd.from (f := cel3) (m := 3) (fun _ => rfl) hr j cap (by omega)).keep hx) (by omega)
        rw [if_pos e1, e1] at GY
        rw [if_pos e2, e2] at GZ
        exact statsWhole_in kind A n cap j _ _ _ w hcap (by omega) GO GY GZ (fun w => by have h := merge_any kind (Cel.rawS (l.take j)) (Cel.rawS (l.drop j)) w; rw [e3] at h; exact h)
  · rw [if_neg hc] at GO
    exact statsWhole_no kind A n cap k _ w (by simp; omega) (by simp; omega) GO
end Go.Proofs.Ytikdmnedbfpkeaa
