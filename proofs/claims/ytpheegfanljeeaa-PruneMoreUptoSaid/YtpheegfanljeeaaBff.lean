/- Bloom: the walks of unions, and of what may be. -/
import Derived.Test.YtpheegfanljeeaaBfd
namespace Go.Proofs.Ytpheegfanljeeaa
open Go.RowKit Hy

set_option maxHeartbeats 1000000 in
theorem mayOf_core (f : Bloom.F) (k : Int) (n : Nat) (s : ByteArray) (w : World) (m0 m1 m2 : Nat) (b0 b1 b2 : Bool)
    (C : ∀ w, Calls Try.prog 116 #[.agg #[.int .i64 k, .int .u64 n, .string s]] w (Slice3 m0 m1 m2 w))
    (G0 : Gives Try.prog 117 #[.agg #[.int .u64 (f 0), .int .u64 (f 1), .int .u64 (f 2), .int .u64 (f 3)], .int .i64 m0] (.bool b0)) (G1 : Gives Try.prog 117 #[.agg #[.int .u64 (f 0), .int .u64 (f 1), .int .u64 (f 2), .int .u64 (f 3)], .int .i64 m1] (.bool b1)) (G2 : Gives Try.prog 117 #[.agg #[.int .u64 (f 0), .int .u64 (f 1), .int .u64 (f 2), .int .u64 (f 3)], .int .i64 m2] (.bool b2)) :
    Calls Try.prog 97 #[.agg #[.int .u64 (f 0), .int .u64 (f 1), .int .u64 (f 2), .int .u64 (f 3)], .agg #[.int .i64 k, .int .u64 n, .string s]] w fun e w' => e = .returned (.bool (b0 && b1 && b2)) ∧ Ext w w' := by
  have HC := hid C
  clear C
  cases b0 <;> cases b1
  all_goals
    go_enter Try.func97, Try.ntmps97
    go_upto_region 1 with fail
    refine wp_gen (fun w' => Ext w w' ∧ Blk w' w.heap.size 48 #[.int .u64 (f 0), .int .u64 (f 1), .int .u64 (f 2), .int .u64 (f 3)] ∧ Blk w' (w.heap.size + 1) 37 #[.int .i64 k, .int .u64 n, .string s])
      ⟨((ext_refl _).new _).new _, (Blk.new _ _ _).alloc _, by simpa using Blk.new (w.alloc _) 37 _⟩ ?_
    rintro wz ⟨B, B1, B2⟩
    have c0 := B2.cell 0
    have c1 := B2.cell 1
    have c2 := B2.cell 2
    go_wp2_with (go_at_call 116; refine (HC.out _).mono ?_; rintro e w2 ⟨g, rfl, B3, b2⟩; replace B := B.then b2; replace B1 := B1.keep b2)
    clear c0 c1 c2 B2
    have a0 := cell_regrown (B1.cell 0)
    have a1 := cell_regrown (B1.cell 1)
    have a2 := cell_regrown (B1.cell 2)
    have a3 := cell_regrown (B1.cell 3)
    have d0 := cell_regrown (B3.cell 0)
    have d1 := cell_regrown (B3.cell 1)
    have d2 := cell_regrown (B3.cell 2)
    refine wp_region_quiet_below (by kernel_rfl) (by kernel_rfl) ?_
    repeat (go_big_quiet_step ((first
      | (go_at_call_of 117 (Value.int IntKind.i64 m0); exact G0.quiet _ _ _)
      | (go_at_call_of 117 (Value.int IntKind.i64 m1); exact G1.quiet _ _ _)
      | (go_at_call_of 117 (Value.int IntKind.i64 m2); exact G2.quiet _ _ _))))
    refine wpQuiet_nil ?_
    intro w9 hw9
    obtain ⟨p, rfl⟩ := hw9
    go_wp2
    go_returns
    exact ⟨rfl, B.then (ext_regrown _ p)⟩
theorem mayOf_any (f : Bloom.F) (k : Int) (n : Nat) (s : ByteArray) (w : World) (hf : f.ok) (h3 : n < 18446744073709551616) (h4 : s.size ≤ 140737488351232) :
    Calls Try.prog 97 #[.agg #[.int .u64 (f 0), .int .u64 (f 1), .int .u64 (f 2), .int .u64 (f 3)], .agg #[.int .i64 k, .int .u64 n, .string s]] w fun e w' => e = .returned (.bool (Bloom.may f ⟨k, n, s⟩)) ∧ Ext w w' :=
  mayOf_core f k n s w _ _ _ _ _ _ (fun w => marksAt_any k n s w h3 h4) (fun w => hasMark_any f _ w hf (Bloom.mark0_lt _)) (fun w => hasMark_any f _ w hf (Bloom.mark1_lt _)) (fun w => hasMark_any f _ w hf (Bloom.mark2_lt _))
end Go.Proofs.Ytpheegfanljeeaa
