/- Bloom: the walks of filters of lists. -/
import Derived.Test.YtpheegfanljeeaaBfd
import Derived.ChangeKeysEq
namespace Go.Proofs.Ytpheegfanljeeaa
open Go.RowKit Hy

set_option maxHeartbeats 1000000 in
theorem of_f_any (l : List C) (len : Nat) (A : Option Addr) (cap : Nat) (w : World) (hr : Rd w A (l.flatMap C.cells)) (hok : C.okL l) (hl : l.length = len) (hlen : len ≤ 140737488351232) :
    Calls Try.prog 23 #[.slice A len cap] w fun e w' => e = .returned (.agg #[.int .u64 (Bloom.of Bloom.none l 0), .int .u64 (Bloom.of Bloom.none l 1), .int .u64 (Bloom.of Bloom.none l 2), .int .u64 (Bloom.of Bloom.none l 3)]) ∧ Ext w w' := by
  subst hl
  have HR := hid hr
  have HK := hid hok
  clear hr hok
  go_enter Try.func23, Try.ntmps23
  go_wp2
  go_loopw [8] (fun i wr => ∃ (k : Nat) (F : Bloom.F), k ≤ l.length ∧ i = .int .i64 k ∧ F.ok ∧ Hid (F = Bloom.of Bloom.none (l.take k)) ∧ Blk wr (w.heap.size + 1) 86 (Bloom.arr F) ∧ Blk wr w.heap.size 48 #[.int .u64 0, .int .u64 0, .int .u64 0, .int .u64 0] ∧ Ext w wr)
    (fun i _ => l.length - (intOf i).toNat)
  case atStart => exact ⟨0, Bloom.none, Nat.zero_le _, rfl, Bloom.none_ok, rfl, Blk.cast (cs := #[.int .u64 0, .int .u64 0, .int .u64 0, .int .u64 0]) (by simpa using Blk.new (w.alloc _) 86 _) rfl, (Blk.new _ _ _).alloc _, ((ext_refl _).new _).new _⟩
  case round =>
    obtain ⟨k, F, hk, rfl, hF, HF, B1, B2, B⟩ := hrel
    have HR2 := hid (HR.out.keep B)
    by_cases hlt : k < l.length
    · obtain ⟨b, o, rfl, hb, hc⟩ := Rd.cell3 (f := C.cells) (fun _ => rfl) HR2.out hlt
      have c0 := hc 0 _ (by decide) rfl
      have c1 := hc 1 _ (by decide) rfl
      have c2 := hc 2 _ (by decide) rfl
      simp only [Nat.add_zero] at c0
      have hcok := HK.out l[k] (List.getElem_mem hlt)
      have HS : Hid (Bloom.of Bloom.none (l.take (k + 1)) = Bloom.add F l[k]) := by
        rw [HF.out, List.take_succ_eq_append_getElem hlt, Bloom.of_snoc]; rfl
      clear hc hb HR HR2 HK
      generalize l[k] = c at *
      obtain ⟨ck, cn, cs⟩ := c
      obtain ⟨h3, h4⟩ := hcok
      dsimp only at *
      have G : Gives Try.prog 56 #[.agg #[.int .u64 (F 0), .int .u64 (F 1), .int .u64 (F 2), .int .u64 (F 3)], .agg #[.int .i64 ck, .int .u64 cn, .string cs]] _ := fun w => with_any F ck cn cs w hF h3 h4
      have hR := Bloom.add_ok hF ⟨ck, cn, cs⟩
      generalize Bloom.add F ⟨ck, cn, cs⟩ = R at *
      have a0 := B1.cell 0
      have a1 := B1.cell 1
      have a2 := B1.cell 2
      have a3 := B1.cell 3
      unfold Bloom.arr at a0 a1 a2 a3
      have hz := B.size
      have hz1 := B1.lt
      go_wp2_with (go_at_call 56; refine (G _).mono ?_; rintro e w2 ⟨rfl, b2⟩; replace B := (B.new _).then b2; replace B2 := (B2.alloc _).keep b2; replace B1 := (B1.alloc _).keep b2; have d0 := B1.cell 0; have d1 := B1.cell 1; have d2 := B1.cell 2; have d3 := B1.cell 3; unfold Bloom.arr at d0 d1 d2 d3; have e0 := B1.frozen 0; have e1 := B1.frozen 1; have e2 := B1.frozen 2; have e3 := B1.frozen 3)
      go_roundw
      case rel =>
        have hz3 : w.heap.size ≤ w.heap.size + 1 := by omega
        exact ⟨k + 1, R, by omega, by go_num, hR, HS.out.symm, ((((B1.set 0 _).set 1 _).set 2 _).set 3 _).cast (Bloom.arr_set4 F R), (((B2.far (by simp) _).far (by simp) _).far (by simp) _).far (by simp) _, (((B.put hz3 _).put hz3 _).put hz3 _).put hz3 _⟩
      case measure => simp [intOf]; omega
    · have HE : Hid (F = Bloom.of Bloom.none l) := by rw [Hid, HF.out, List.take_of_length_le (by omega)]
      have a0 := B1.cell 0
      have a1 := B1.cell 1
      have a2 := B1.cell 2
      have a3 := B1.cell 3
      unfold Bloom.arr at a0 a1 a2 a3
      have d0 := B2.cell 0
      have d1 := B2.cell 1
      have d2 := B2.cell 2
      have d3 := B2.cell 3
      have e0 := B2.frozen 0
      have e1 := B2.frozen 1
      have e2 := B2.frozen 2
      have e3 := B2.frozen 3
      clear HR HR2 HK
      go_wp2
      refine bodyPost_ret (v := .agg #[.int .u64 (F 0), .int .u64 (F 1), .int .u64 (F 2), .int .u64 (F 3)]) (by simp [results, Try.results23, go_sem, d0, d1, d2, d3]) rfl ⟨?_, ?_⟩
      · rw [← HE.out]
      · exact (((B.put (Nat.le_refl _) _).put (Nat.le_refl _) _).put (Nat.le_refl _) _).put (Nat.le_refl _) _

theorem cells22 : Try.prog.cellsOf 35 = 1 := by kernel_rfl
theorem part22 (xs : Array Value) (i : Nat) (k : IntKind) (n : Int) (h : xs[i]? = some (.int k n)) (w : World) : (part 35 xs i).run Try.prog w = .ok (.int k n) w := by
  simp [part, h]
theorem eqT (TT : TypeId) (hu : Try.prog.underlying TT = some (.array 4 35)) (a0 a1 a2 a3 b0 b1 b2 b3 : Int) (w : World) : (binOp .eql TT (.agg #[.int .u64 a0, .int .u64 a1, .int .u64 a2, .int .u64 a3]) (.agg #[.int .u64 b0, .int .u64 b1, .int .u64 b2, .int .u64 b3])).run Try.prog w = .ok (.bool (a0 == b0 && (a1 == b1 && (a2 == b2 && a3 == b3)))) w := by
  obtain ⟨i, hi⟩ : ∃ i, Try.prog.info? 35 = some i := Option.isSome_iff_exists.1 (by kernel_rfl)
  have q0 : ∀ (a b c d : Int) (w : World), (part 35 #[.int .u64 a, .int .u64 b, .int .u64 c, .int .u64 d] (0 * 1)).run Try.prog w = .ok (.int .u64 a) w := fun a b c d w => part22 _ 0 .u64 a rfl w
  have q1 : ∀ (a b c d : Int) (w : World), (part 35 #[.int .u64 a, .int .u64 b, .int .u64 c, .int .u64 d] (1 * 1)).run Try.prog w = .ok (.int .u64 b) w := fun a b c d w => part22 _ 1 .u64 b rfl w
  have q2 : ∀ (a b c d : Int) (w : World), (part 35 #[.int .u64 a, .int .u64 b, .int .u64 c, .int .u64 d] (2 * 1)).run Try.prog w = .ok (.int .u64 c) w := fun a b c d w => part22 _ 2 .u64 c rfl w
  have q3 : ∀ (a b c d : Int) (w : World), (part 35 #[.int .u64 a, .int .u64 b, .int .u64 c, .int .u64 d] (3 * 1)).run Try.prog w = .ok (.int .u64 d) w := fun a b c d w => part22 _ 3 .u64 d rfl w
  have qe : ∀ (a b : Int) (w : World), (Op.equalIn 9999 35 (.int .u64 a) (.int .u64 b)).run Try.prog w = .ok (a == b) w := fun a b w => run_equalIn_int w 9998 35 .u64 .u64 a b Try.underlying35
  rw [run_eql_struct, run_equalIn_array w 9999 _ _ hu hi]
  simp only [show List.range 4 = [0, 1, 2, 3] from rfl, Op.eqItems, cells22, Sem.run_bind, q0, q1, q2, q3, qe, Result.andThen_ok, Sem.run_ite, Sem.run_pure]
  cases (a0 == b0) <;> cases (a1 == b1) <;> cases (a2 == b2) <;> cases (a3 == b3) <;> rfl
theorem und51 : Try.prog.underlying 86 = some (.array 4 35) := by kernel_rfl
theorem und23 : Try.prog.underlying 48 = some (.array 4 35) := by kernel_rfl
set_option maxHeartbeats 400000 in
theorem may_f_any (f : Bloom.F) (k : Int) (n : Nat) (s : ByteArray) (w : World) (hf : f.ok) (h3 : n < 18446744073709551616) (h4 : s.size ≤ 140737488351232) :
    Calls Try.prog 95 #[.agg #[.int .u64 (f 0), .int .u64 (f 1), .int .u64 (f 2), .int .u64 (f 3)], .agg #[.int .i64 k, .int .u64 n, .string s]] w fun e w' => e = .returned (.bool (Bloom.may f ⟨k, n, s⟩)) ∧ Ext w w' := by
  have G : Gives Try.prog 56 #[.agg #[.int .u64 (f 0), .int .u64 (f 1), .int .u64 (f 2), .int .u64 (f 3)], .agg #[.int .i64 k, .int .u64 n, .string s]] _ := fun w => with_any f k n s w hf h3 h4
  have HM := hid (Bloom.same_add f ⟨k, n, s⟩)
  generalize Bloom.add f ⟨k, n, s⟩ = r at *
  go_enter Try.func95, Try.ntmps95
  go_wp2
  refine wp_gen (fun w' => Ext w w' ∧ Blk w' w.heap.size 48 (Bloom.arr f) ∧ Blk w' (w.heap.size + 1) 37 #[.int .i64 k, .int .u64 n, .string s])
    ⟨((ext_refl _).new _).new _, (Blk.new _ _ _).alloc _, by simpa using Blk.new (w.alloc _) 37 _⟩ ?_
  rintro wz ⟨B, B1, B2⟩
  unfold Bloom.arr at B1
  have a0 := cell_regrown (B1.cell 0)
  have a1 := cell_regrown (B1.cell 1)
  have a2 := cell_regrown (B1.cell 2)
  have a3 := cell_regrown (B1.cell 3)
  have c0 := cell_regrown (B2.cell 0)
  have c1 := cell_regrown (B2.cell 1)
  have c2 := cell_regrown (B2.cell 2)
  refine wp_region_quiet_below (by kernel_rfl) (by kernel_rfl) ?_
  have eq := eqT 86 und51
  repeat (go_big_quiet_step ((go_at_call 56; exact G.quiet _ _ _)))
  refine wpQuiet_nil ?_
  intro w9 hw9
  obtain ⟨p, rfl⟩ := hw9
  go_wp2
  go_returns
  exact ⟨ret_bool HM.out, B.then (ext_regrown wz p)⟩

end Go.Proofs.Ytpheegfanljeeaa
