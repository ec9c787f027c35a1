/- Stats: the closed test. -/
import Derived.Test.YtikdmnedbfpkeaaStl
import Derived.Test.YtikdmnedbfpkeaaGho
namespace Hy.Cel
theorem raw_a : rawS [(1, 7, ByteArray.empty), (0, 0, ByteArray.empty), (1, 3, ByteArray.empty)] = (3, 1, (1, 3, ByteArray.empty), 1, 7, ByteArray.empty) := by decide +kernel
theorem cchk_a : cchk 1 [(1, 7, ByteArray.empty), (0, 0, ByteArray.empty), (1, 3, ByteArray.empty)] = 0 := by decide +kernel
theorem mg_a : mg 1 (3, 1, (1, 3, ByteArray.empty), 1, 7, ByteArray.empty) (2, 1, (1, 9, ByteArray.empty), 1, 9, ByteArray.empty) = ((5, 2, (1, 3, ByteArray.empty), 1, 9, ByteArray.empty), 0) := Prod.ext (by decide +kernel) (by decide +kernel)
theorem sck_a : sck 1 (1, 0, (0, 0, ByteArray.empty), 0, 0, ByteArray.empty) = 4 := by decide +kernel
theorem sck_b : sck 2 (0, 0, (0, 0, ByteArray.empty), 0, 0, ByteArray.empty) = 0 := by decide +kernel
end Hy.Cel
namespace Go.Proofs.Ytikdmnedbfpkeaa
open Go.RowKit Hy
theorem cNum_any (n : Int) (w : World) : Calls Try.prog 33 #[.int .u64 n] w fun e w' => e = .returned (.agg #[.int .i64 1, .int .u64 n, .string .empty]) ∧ Ext w w' := by
  go_enter Try.func33, Try.ntmps33
  go_wp2
  go_returns
  exact ⟨rfl, Ext.new (ext_refl _) _⟩
theorem cells_any (A : Option Addr) (n c : Nat) (w : World) : Calls Try.prog 36 #[.slice A n c] w fun e w' => e = .returned (.slice A n c) ∧ w = w' := by
  go_enter Try.func36, Try.ntmps36
  go_wp2
  go_returns
  exact ⟨rfl, rfl⟩
theorem of_a (A : Option Addr) (cap : Nat) (w : World) (hr : Rd w A (cls [(1, 7, ByteArray.empty), (0, 0, ByteArray.empty), (1, 3, ByteArray.empty)])) :
    Calls Try.prog 13 #[.int .i64 1, .slice A 3 cap] w fun e w' => e = .returned (.tuple #[.agg #[.int .i64 3, .int .i64 1, .int .i64 1, .int .u64 3, .string .empty, .int .i64 1, .int .u64 7, .string .empty], .int .i64 0]) ∧ Ext w w' := by
  have h := of_any 1 _ A 3 cap w rfl hr (by omega)
  rw [Cel.cchk_a, if_pos rfl, Cel.raw_a] at h
  exact h
theorem merge_a : Gives Try.prog 19 #[.int .i64 1, .agg #[.int .i64 3, .int .i64 1, .int .i64 1, .int .u64 3, .string .empty, .int .i64 1, .int .u64 7, .string .empty], .agg #[.int .i64 2, .int .i64 1, .int .i64 1, .int .u64 9, .string .empty, .int .i64 1, .int .u64 9, .string .empty]] (.tuple #[.agg #[.int .i64 5, .int .i64 2, .int .i64 1, .int .u64 3, .string .empty, .int .i64 1, .int .u64 9, .string .empty], .int .i64 0]) := fun w => by
  have h := merge_any 1 (3, 1, (1, 3, ByteArray.empty), 1, 7, ByteArray.empty) (2, 1, (1, 9, ByteArray.empty), 1, 9, ByteArray.empty) w
  rw [Cel.mg_a] at h
  exact h
theorem check_a : Gives Try.prog 17 #[.int .i64 1, .agg #[.int .i64 1, .int .i64 0, .int .i64 0, .int .u64 0, .string ⟨#[]⟩, .int .i64 0, .int .u64 0, .string ⟨#[]⟩]] (.int .i64 4) := fun w => by
  have h := statsCheck_any 1 (1, 0, (0, 0, ByteArray.empty), 0, 0, ByteArray.empty) w
  rw [Cel.sck_a] at h
  exact h
theorem check_b : Gives Try.prog 17 #[.int .i64 2, .agg #[.int .i64 0, .int .i64 0, .int .i64 0, .int .u64 0, .string ⟨#[]⟩, .int .i64 0, .int .u64 0, .string ⟨#[]⟩]] (.int .i64 0) := fun w => by
  have h := statsCheck_any 2 (0, 0, (0, 0, ByteArray.empty), 0, 0, ByteArray.empty) w
  rw [Cel.sck_b] at h
  exact h
set_option maxHeartbeats 4000000 in
theorem statsBegun_any (w : World) : Calls Try.prog 16 #[] w fun e w' => e = .returned (.bool true) ∧ Ext w w' := by
  have X := hid (ext_refl w)
  have G3 : Gives Try.prog 33 #[.int .u64 3] (.agg #[.int .i64 1, .int .u64 3, .string .empty]) := fun w => cNum_any 3 w
  have G7 : Gives Try.prog 33 #[.int .u64 7] (.agg #[.int .i64 1, .int .u64 7, .string .empty]) := fun w => cNum_any 7 w
  have G9 : Gives Try.prog 33 #[.int .u64 9] (.agg #[.int .i64 1, .int .u64 9, .string .empty]) := fun w => cNum_any 9 w
  have GM := merge_a
  have GA := check_a
  have GB := check_b
  go_enter Try.func16, Try.ntmps16
  go_wp2_with fail
  refine (G7 _).mono ?_
  rintro e w1 ⟨rfl, hx⟩
  replace X := hid (X.out.then hx)
  clear hx
  go_wp2_with fail
  refine (G3 _).mono ?_
  rintro e w2 ⟨rfl, hx⟩
  replace X := hid (X.out.then hx)
  clear hx
  go_wp2_with fail
  refine (cells_any _ _ _ _).mono ?_
  rintro e _ ⟨rfl, rfl⟩
  go_wp2_with fail
  refine (of_a _ _ _ (rd_lit rfl rfl)).mono ?_
  rintro e w5 ⟨rfl, hx⟩
  replace X := hid (X.out.then (Ext.then (Ext.new (ext_refl _) _) hx))
  clear hx
  have B1 := hid (Blk.new w5 27 #[.int .i64 3, .int .i64 1, .int .i64 1, .int .u64 3, .string .empty, .int .i64 1, .int .u64 7, .string .empty])
  replace X := hid (Ext.new X.out (.cells #[.int .i64 3, .int .i64 1, .int .i64 1, .int .u64 3, .string .empty, .int .i64 1, .int .u64 7, .string .empty] 27))
  have X0 := X
  obtain ⟨⟨p0, p1, p2, p3⟩, p4, p5, p6, p7⟩ := B1.out.c8
  have p0r := cell_regrown p0
  have p1r := cell_regrown p1
  have p2r := cell_regrown p2
  have p3r := cell_regrown p3
  have p4r := cell_regrown p4
  have p5r := cell_regrown p5
  have p6r := cell_regrown p6
  have p7r := cell_regrown p7
  go_wp2_with fail
  refine wp_region_ghost [0, 1, 2, 3, 4, 5, 6, 7] 8 [9, 10] _ 3 27 #[.int .i64 0, .int .i64 0, .int .i64 0, .int .u64 0, .string ⟨#[]⟩, .int .i64 0, .int .u64 0, .string ⟨#[]⟩] (by kernel_rfl) rfl rfl rfl rfl (by kernel_rfl) (by intro c a x v w h; exact h) (by intro w; simp [go_sem]) (by kernel_rfl) (by kernel_rfl) (by rfl) ?_
  simp only [List.filterMap_cons, List.filterMap_nil, List.getElem?_toArray, List.getElem?_cons_zero, List.getElem?_cons_succ]
  repeat (first
    | (refine wpG_val (by rfl) (by rfl) ?_; intro K hK; go_big_quiet_op; go_big_quiet_on)
    | (refine wpG_call (by rfl) (by rfl) ?_; apply Exists.intro; refine ⟨fun w1 hw1 => ?_, ?_⟩; go_big_quiet_op; apply Exists.intro; refine ⟨fun _ => ?_, ?_⟩; (first | (go_at_call 33; with_reducible exact G9.quiet _ _ _) | (go_at_call 19; with_reducible exact GM.quiet _ _ _)); rfl))
  refine wpG_nil ?_
  intro w7 g hx hgl BG
  replace X := hid (X.out.then hx)
  clear p0 p0r p1 p1r p2 p2r p3 p3r p4 p4r p5 p5r p6 p6r p7 p7r
  have B1h := B1.out.keep hx
  have hne : w5.heap.size ≠ g := by have := B1.out.lt; omega
  refine wpT_store rfl 27 (.tmp 3) (.tmp 20) rfl g _ rfl rfl 27 _ BG (by kernel_rfl) rfl (by kernel_rfl) hgl hx ?_
  intro w8 B2 F8 hx8
  replace X := hid (Ext.then (w := w5.alloc (.cells #[.int .i64 3, .int .i64 1, .int .i64 1, .int .u64 3, .string .empty, .int .i64 1, .int .u64 7, .string .empty] 27)) X0.out hx8)
  replace B1 := hid (F8 _ _ _ hne B1h)
  replace B2 := hid B2
  clear hx BG F8 hne B1h X0
  refine wpT_assign rfl (.tmp 21) (.int .i64 0) rfl rfl hx8 ?_
  clear hx8
  refine wpT_nil ?_
  simp only [Act.put, List.setIfInBounds_toArray, List.set_cons_zero, List.set_cons_succ]
  obtain ⟨⟨p0, p1, p2, p3⟩, p4, p5, p6, p7⟩ := B1.out.c8
  obtain ⟨⟨q0, q1, q2, q3⟩, q4, q5, q6, q7⟩ := B2.out.c8
  have p0r := cell_regrown p0
  have p1r := cell_regrown p1
  have p2r := cell_regrown p2
  have p3r := cell_regrown p3
  have p4r := cell_regrown p4
  have p5r := cell_regrown p5
  have p6r := cell_regrown p6
  have p7r := cell_regrown p7
  have q0r := cell_regrown q0
  have q1r := cell_regrown q1
  have q2r := cell_regrown q2
  have q3r := cell_regrown q3
  have q4r := cell_regrown q4
  have q5r := cell_regrown q5
  have q6r := cell_regrown q6
  have q7r := cell_regrown q7
  go_wp2_with fail
  refine wp_region_quiet_below (by kernel_rfl) (by kernel_rfl) ?_
  repeat (go_big_quiet_step (first | (go_at_call 33; first | with_reducible exact G3.quiet _ _ _ | with_reducible exact G7.quiet _ _ _ | with_reducible exact G9.quiet _ _ _) | (go_at_call 17; first | with_reducible exact GA.quiet _ _ _ | with_reducible exact GB.quiet _ _ _)))
  refine wpQuiet_nil ?_
  intro w9 hw9
  have X9 : Ext w8 w9 := by obtain ⟨p, rfl⟩ := hw9; exact ext_regrown _ p
  replace X := hid (X.out.then X9)
  clear hw9 X9
  clear p0 p0r p1 p1r p2 p2r p3 p3r p4 p4r p5 p5r p6 p6r p7 p7r q0 q0r q1 q1r q2 q2r q3 q3r q4 q4r q5 q5r q6 q6r q7 q7r
  go_wp2
  go_returns
  exact ⟨rfl, X.out⟩
end Go.Proofs.Ytikdmnedbfpkeaa
