/- Cells: Order, Less: walks. -/
import Derived.Test.YtolhifnlahllnaaGreatDoorCea
namespace Go.Proofs.YtolhifnlahllnaaGreatDoor
open Go.RowKit Hy
set_option maxHeartbeats 1600000 in
set_option maxRecDepth 100000 in
theorem order_any (a b : Cel) (w : World) : Calls Tryz.prog 112 #[celV a, celV b] w fun e w' => e = .returned (.int .i64 (Cel.ord a b)) ∧ Ext w w' := by
  have Ga : Gives Tryz.prog 116 #[celV a] (.bool (decide (a.1 ≠ 0))) := fun w => there_any a w
  have Gb : Gives Tryz.prog 116 #[celV b] (.bool (decide (b.1 ≠ 0))) := fun w => there_any b w
  have HA := hid (there_any a)
  obtain ⟨k, n, s⟩ := a
  obtain ⟨k', n', s'⟩ := b
  obtain ⟨p, hp⟩ : ∃ p, p = decide (k ≠ 0) := ⟨_, rfl⟩
  obtain ⟨q, hq⟩ : ∃ q, q = decide (k' ≠ 0) := ⟨_, rfl⟩
  simp only [celV] at Ga Gb HA
  rw [← hp] at Ga HA
  rw [← hq] at Gb
  obtain ⟨R, hR⟩ : ∃ R, R = Cel.ord (k, n, s) (k', n', s') := ⟨_, rfl⟩
  rw [← hR]
  have HR := hid (show R = if p ≠ q then (if k ≠ 0 then 1 else -1) else Cel.or3 (Lib.compareInt k k') (Lib.compareInt (n : Nat) (n' : Nat)) (Lib.compareBytes s.data.toList s'.data.toList) by rw [hR, hp, hq]; rfl)
  have HP := hid hp
  clear hp hq hR
  go_enter Tryz.func112, Tryz.ntmps112
  go_wp2_with fail
  obtain ⟨g, hg⟩ : ∃ g, g = w.heap.size := ⟨_, rfl⟩
  refine wp_gen (fun w' => (Blk w' g 42 #[.int .i64 k, .int .u64 (n : Int), .string s] ∧ Blk w' (g + 1) 42 #[.int .i64 k', .int .u64 (n' : Int), .string s']) ∧ Ext w w') ⟨⟨by rw [hg]; exact (Blk.new w _ _).alloc _, by rw [hg]; exact Blk.newAt (by simp)⟩, Ext.new (Ext.new (ext_refl w) _) _⟩ ?_
  rintro wx ⟨⟨B1, B2⟩, X⟩
  rw [← hg]
  have HG := hid hg
  clear hg
  have a0 := B1.cell 0
  have a1 := B1.cell 1
  have a2 := B1.cell 2
  have b0 := B2.cell 0
  have b1 := B2.cell 1
  have b2 := B2.cell 2
  simp only [List.getElem?_toArray, List.getElem?_cons_zero, List.getElem?_cons_succ] at a0 a1 a2 b0 b1 b2
  have a0r := cell_regrown a0
  have a1r := cell_regrown a1
  have a2r := cell_regrown a2
  have b0r := cell_regrown b0
  have b1r := cell_regrown b1
  have b2r := cell_regrown b2
  have HB1 := hid B1
  have HB2 := hid B2
  clear B1 B2
  refine wp_region_quiet_below (by kernel_rfl) (by kernel_rfl) ?_
  repeat (go_big_quiet_step (first | (go_at_call 116; first | with_reducible exact Ga.quiet _ _ _ | with_reducible exact Gb.quiet _ _ _)))
  refine wpQuiet_nil ?_
  intro w8 hw8
  have X8 : Ext wx w8 := by obtain ⟨p, rfl⟩ := hw8; exact ext_regrown _ p
  have B18 := HB1.out.keep X8
  have B28 := HB2.out.keep X8
  have X9 := hid (X.then X8)
  clear hw8 a0 a1 a2 b0 b1 b2 a0r a1r a2r b0r b1r b2r HB1 HB2 X8 X
  have a0 := B18.cell 0
  have a1 := B18.cell 1
  have a2 := B18.cell 2
  have b0 := B28.cell 0
  have b1 := B28.cell 1
  have b2 := B28.cell 2
  simp only [List.getElem?_toArray, List.getElem?_cons_zero, List.getElem?_cons_succ] at a0 a1 a2 b0 b1 b2
  clear B18 B28
  cases p with
  | false =>
    cases q with
    | false =>
      have HR2 := hid (show R = _ by rw [HR.out, if_neg (by simp)])
      clear HR HP
      go_wp2_with fail
      refine wp_region_still_tail 15 (by kernel_rfl) (by kernel_rfl) ?_
      simp only [List.take_succ_cons, List.take_zero, List.drop_succ_cons, List.drop_zero]
      repeat still_step
      still_call (cmpInt_any _ _ _)
      repeat still_step
      still_call (cmpU64_any _ _ _)
      repeat still_step
      still_call (Tryz.strings_Compare _ _ _)
      refine wpStill_nil ?_
      change wpList _ _ _ _ _ w8.drew
      have HOR := hid (fun (x y z : Int) => or_any x y z w8.heap.size 3 (w8.drew.alloc (.cells #[.int .i64 x, .int .i64 y, .int .i64 z] 3)) ((Blk.new w8.drew _ _).cell 0) ((Blk.new w8.drew _ _).cell 1) ((Blk.new w8.drew _ _).cell 2))
      go_wp2_with (go_at_call 117; go_loud (refine (HOR.out _ _ _).mono ?_; rintro e w10 ⟨rfl, rfl⟩))
      go_returns
      exact ⟨by rw [HR2.out]; rfl, (X9.out.draw).new _⟩
    | true =>
      have HR2 := hid (show R = -1 by rw [HR.out, if_pos (by simp), if_neg (by have := HP.out; simpa using this)])
      clear HR HP
      go_wp2_with (go_at_call 116; refine (HA.out _).mono ?_; rintro e w10 ⟨rfl, x10⟩; have X10 := hid x10; clear x10)
      go_returns
      exact ⟨by rw [HR2.out]; rfl, X9.out.then X10.out⟩
  | true =>
    cases q with
    | false =>
      have HR2 := hid (show R = 1 by rw [HR.out, if_pos (by simp), if_pos (by have := HP.out; simpa using this)])
      clear HR HP
      go_wp2_with (go_at_call 116; refine (HA.out _).mono ?_; rintro e w10 ⟨rfl, x10⟩; have X10 := hid x10; clear x10)
      go_returns
      exact ⟨by rw [HR2.out]; rfl, X9.out.then X10.out⟩
    | true =>
      have HR2 := hid (show R = _ by rw [HR.out, if_neg (by simp)])
      clear HR HP
      go_wp2_with fail
      refine wp_region_still_tail 15 (by kernel_rfl) (by kernel_rfl) ?_
      simp only [List.take_succ_cons, List.take_zero, List.drop_succ_cons, List.drop_zero]
      repeat still_step
      still_call (cmpInt_any _ _ _)
      repeat still_step
      still_call (cmpU64_any _ _ _)
      repeat still_step
      still_call (Tryz.strings_Compare _ _ _)
      refine wpStill_nil ?_
      change wpList _ _ _ _ _ w8.drew
      have HOR := hid (fun (x y z : Int) => or_any x y z w8.heap.size 3 (w8.drew.alloc (.cells #[.int .i64 x, .int .i64 y, .int .i64 z] 3)) ((Blk.new w8.drew _ _).cell 0) ((Blk.new w8.drew _ _).cell 1) ((Blk.new w8.drew _ _).cell 2))
      go_wp2_with (go_at_call 117; go_loud (refine (HOR.out _ _ _).mono ?_; rintro e w10 ⟨rfl, rfl⟩))
      go_returns
      exact ⟨by rw [HR2.out]; rfl, (X9.out.draw).new _⟩
end Go.Proofs.YtolhifnlahllnaaGreatDoor
