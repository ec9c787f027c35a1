/- Bloom: the walks of filters. -/
import Derived.Test.YtiamfjfbmgijhaaBly
namespace Go.Proofs.Ytiamfjfbmgijhaa
open Go.RowKit Hy

set_option maxHeartbeats 1000000 in
theorem with_any (f : Bloom.F) (k : Int) (n : Nat) (s : ByteArray) (w : World) (hf : f.ok) (h3 : n < 18446744073709551616) (h4 : s.size ≤ 140737488351232) :
    Calls Try.prog 31 #[.agg #[.int .u64 (f 0), .int .u64 (f 1), .int .u64 (f 2), .int .u64 (f 3)], .agg #[.int .i64 k, .int .u64 n, .string s]] w fun e w' =>
      e = .returned (.agg #[.int .u64 (Bloom.add f ⟨k, n, s⟩ 0), .int .u64 (Bloom.add f ⟨k, n, s⟩ 1), .int .u64 (Bloom.add f ⟨k, n, s⟩ 2), .int .u64 (Bloom.add f ⟨k, n, s⟩ 3)]) ∧ Ext w w' := by
  have G : Gives Try.prog 45 #[.agg #[.int .i64 k, .int .u64 n, .string s]] _ := fun w => marks_any k n s w h3 h4
  have HA : Hid (Bloom.add f ⟨k, n, s⟩ = Bloom.setm (Bloom.setm (Bloom.setm f (Bloom.mark0 ⟨k, n, s⟩)) (Bloom.mark1 ⟨k, n, s⟩)) (Bloom.mark2 ⟨k, n, s⟩)) := rfl
  have l0 : Bloom.mark0 ⟨k, n, s⟩ < 256 := Nat.mod_lt _ (by decide)
  have l1 : Bloom.mark1 ⟨k, n, s⟩ < 256 := Nat.mod_lt _ (by decide)
  have l2 : Bloom.mark2 ⟨k, n, s⟩ < 256 := Nat.mod_lt _ (by decide)
  generalize Bloom.mark0 ⟨k, n, s⟩ = m0 at *
  generalize Bloom.mark1 ⟨k, n, s⟩ = m1 at *
  generalize Bloom.mark2 ⟨k, n, s⟩ = m2 at *
  have i0 : ∀ w, (Instr.index 70 (.agg #[.int .u8 (m0 : Nat), .int .u8 (m1 : Nat), .int .u8 (m2 : Nat)]) (.int .i64 0)).run Try.prog w = .ok (.int .u8 (m0 : Nat)) w := fun _ => by kernel_rfl
  have i1 : ∀ w, (Instr.index 70 (.agg #[.int .u8 (m0 : Nat), .int .u8 (m1 : Nat), .int .u8 (m2 : Nat)]) (.int .i64 1)).run Try.prog w = .ok (.int .u8 (m1 : Nat)) w := fun _ => by kernel_rfl
  have i2 : ∀ w, (Instr.index 70 (.agg #[.int .u8 (m0 : Nat), .int .u8 (m1 : Nat), .int .u8 (m2 : Nat)]) (.int .i64 2)).run Try.prog w = .ok (.int .u8 (m2 : Nat)) w := fun _ => by kernel_rfl
  go_enter Try.func31, Try.ntmps31
  go_upto_region 1 with fail
  refine wp_gen (fun w' => Ext w w' ∧ Blk w' w.heap.size 51 (Bloom.arr f) ∧ Blk w' (w.heap.size + 1) 26 #[.int .i64 k, .int .u64 n, .string s] ∧ Blk w' (w.heap.size + 2) 51 #[.int .u64 0, .int .u64 0, .int .u64 0, .int .u64 0])
    ⟨(((ext_refl _).new _).new _).new _, ((Blk.new _ _ _).alloc _).alloc _, Blk.alloc (by simpa using Blk.new (w.alloc _) 26 _) _, by simpa using Blk.new ((w.alloc _).alloc _) 51 #[.int .u64 0, .int .u64 0, .int .u64 0, .int .u64 0]⟩ ?_
  rintro wz ⟨B, B1, B2, B3⟩
  have c0 := B2.cell 0
  have c1 := B2.cell 1
  have c2 := B2.cell 2
  go_wp2_with (go_at_call 45; refine (G _).mono ?_; rintro e w2 ⟨rfl, b2⟩; replace B := B.then b2; replace B1 := B1.keep b2; replace B3 := B3.keep b2)
  clear c0 c1 c2 B2
  refine wp_loop_rounds 4 ?_
  rw [rounds_succ]
  have g0 := hf (m0 / 64)
  have r0 := Bloom.shl_p2 (m0 % 64) (by omega)
  have o0 := bits_or_u64_nat (f (m0 / 64)) (Bloom.p2 (m0 % 64)) (by omega) (Bloom.p2_lt _ (by omega))
  have c0 := (B1.cell (m0 / 64)).trans (Bloom.arr_get f (m0 / 64) (by omega))
  have f0 := B1.frozen (m0 / 64)
  go_wp2
  rw [rounds_succ]
  refine wp_gen (fun w' => Ext w w' ∧ Blk w' w.heap.size 51 (Bloom.arr (Bloom.setm f m0)) ∧ Blk w' (w.heap.size + 2) 51 #[.int .u64 0, .int .u64 0, .int .u64 0, .int .u64 0])
    ⟨B.put (Nat.le_refl _) _, by rw [Bloom.setm_upd, ← Bloom.arr_set _ _ _ (by omega)]; exact B1.set _ _, B3.far (by simp) _⟩ ?_
  clear c0 f0 r0 o0 g0 B B1 B3 i0
  rintro w1 ⟨B, B1, B3⟩
  have hf1 := Bloom.setm_ok hf m0
  generalize Bloom.setm f m0 = f1 at *
  have g1 := hf1 (m1 / 64)
  have r1 := Bloom.shl_p2 (m1 % 64) (by omega)
  have o1 := bits_or_u64_nat (f1 (m1 / 64)) (Bloom.p2 (m1 % 64)) (by omega) (Bloom.p2_lt _ (by omega))
  have c0 := (B1.cell (m1 / 64)).trans (Bloom.arr_get f1 (m1 / 64) (by omega))
  have f0 := B1.frozen (m1 / 64)
  go_wp2
  rw [rounds_succ]
  refine wp_gen (fun w' => Ext w w' ∧ Blk w' w.heap.size 51 (Bloom.arr (Bloom.setm f1 m1)) ∧ Blk w' (w.heap.size + 2) 51 #[.int .u64 0, .int .u64 0, .int .u64 0, .int .u64 0])
    ⟨B.put (Nat.le_refl _) _, by rw [Bloom.setm_upd, ← Bloom.arr_set _ _ _ (by omega)]; exact B1.set _ _, B3.far (by simp) _⟩ ?_
  clear c0 f0 r1 o1 g1 B B1 B3 i1
  rintro w2 ⟨B, B1, B3⟩
  have hf2 := Bloom.setm_ok hf1 m1
  generalize Bloom.setm f1 m1 = f2 at *
  have g2 := hf2 (m2 / 64)
  have r2 := Bloom.shl_p2 (m2 % 64) (by omega)
  have o2 := bits_or_u64_nat (f2 (m2 / 64)) (Bloom.p2 (m2 % 64)) (by omega) (Bloom.p2_lt _ (by omega))
  have c0 := (B1.cell (m2 / 64)).trans (Bloom.arr_get f2 (m2 / 64) (by omega))
  have f0 := B1.frozen (m2 / 64)
  go_wp2
  rw [rounds_succ]
  refine wp_gen (fun w' => Ext w w' ∧ Blk w' w.heap.size 51 (Bloom.arr (Bloom.setm f2 m2)) ∧ Blk w' (w.heap.size + 2) 51 #[.int .u64 0, .int .u64 0, .int .u64 0, .int .u64 0])
    ⟨B.put (Nat.le_refl _) _, by rw [Bloom.setm_upd, ← Bloom.arr_set _ _ _ (by omega)]; exact B1.set _ _, B3.far (by simp) _⟩ ?_
  clear c0 f0 r2 o2 g2 B B1 B3 i2
  rintro w3 ⟨B, B1, B3⟩
  have hf3 := Bloom.setm_ok hf2 m2
  generalize Bloom.setm f2 m2 = f3 at *
  have c0 := B1.cell 0
  have c1 := B1.cell 1
  have c2 := B1.cell 2
  have c3 := B1.cell 3
  have d0 := B3.cell 0
  have d1 := B3.cell 1
  have d2 := B3.cell 2
  have d3 := B3.cell 3
  have e0 := B3.frozen 0
  have e1 := B3.frozen 1
  have e2 := B3.frozen 2
  have e3 := B3.frozen 3
  unfold Bloom.arr at c0 c1 c2 c3
  have hz2 : w.heap.size ≤ w.heap.size + 2 := by omega
  go_wp2
  refine bodyPost_ret (v := .agg #[.int .u64 (f3 0), .int .u64 (f3 1), .int .u64 (f3 2), .int .u64 (f3 3)]) (by simp [results, Try.results31, go_sem, d0, d1, d2, d3]) rfl ⟨?_, ?_⟩
  · rw [HA.out]
  · exact (((B.put hz2 _).put hz2 _).put hz2 _).put hz2 _
end Go.Proofs.Ytiamfjfbmgijhaa
