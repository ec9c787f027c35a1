/- Bloom: the walks of marks and filters. -/
import Derived.Test.YtiamfjfbmgijhaaBlx
namespace Go.Proofs.Ytiamfjfbmgijhaa
open Go.RowKit Hy

/-- a new list of three numbers -/
def Slice3 (a b c : Nat) (w : World) (e : Ending) (w' : World) : Prop :=
  ∃ g : Nat, e = .returned (.slice (some ⟨g, 0, none⟩) 3 3) ∧ Blk w' g 3 #[.int .i64 a, .int .i64 b, .int .i64 c] ∧ Ext w w'

set_option maxHeartbeats 400000 in
theorem pow2_any (k : Nat) (w : World) (hk : k < 64) :
    Calls Try.prog 44 #[.int .i64 k] w fun e w' => e = .returned (.int .u64 (Bloom.p2 k)) ∧ w = w' := by
  go_enter Try.func44, Try.ntmps44
  go_wp2
  go_loop [3, 4] (fun a b => ∃ (i x : Nat), i ≤ k ∧ b = .int .i64 i ∧ a = .int .u64 x ∧ x < 18446744073709551616 ∧ (i < k → x < 9223372036854775808) ∧ Hid (x = Bloom.p2 i))
    (fun _ b => k - (intOf b).toNat)
  case atStart => exact ⟨0, 1, Nat.zero_le _, rfl, rfl, by omega, by omega, by rw [Hid, Bloom.p2_eq]⟩
  case round =>
    obtain ⟨i, x, hi, rfl, rfl, hx, hx2, HX⟩ := hrel
    by_cases hlt : i < k
    · have hx3 := hx2 hlt
      clear hx2
      have HP : Hid (Bloom.p2 (i + 1) = x * 2 ∧ (i + 1 < k → x * 2 < 9223372036854775808)) := by
        refine ⟨by rw [Bloom.p2_succ, HX.out], fun h => ?_⟩
        have h1 : 2 ^ (i + 1) < 2 ^ 63 := Nat.pow_lt_pow_right (by decide) (by omega)
        have h2 := Bloom.p2_succ i
        rw [Bloom.p2_eq (i + 1), ← HX.out] at h2
        omega
      go_wp2
      go_round
      case rel => exact ⟨i + 1, x * 2, by omega, by go_num, by go_num, by omega, HP.out.2, HP.out.1.symm⟩
      case measure => simp [intOf]; omega
    · have e : i = k := by omega
      subst e
      go_wp2
      go_returns
      exact ⟨ret_int (by rw [HX.out]), rfl⟩

set_option maxHeartbeats 400000 in
theorem hasMark_any (f : Bloom.F) (i : Nat) (w : World) (hf : f.ok) (hi : i < 256) :
    Calls Try.prog 43 #[.agg #[.int .u64 (f 0), .int .u64 (f 1), .int .u64 (f 2), .int .u64 (f 3)], .int .i64 i] w fun e w' => e = .returned (.bool (Bloom.hasm f i)) ∧ Ext w w' := by
  have G : Gives Try.prog 44 #[.int .i64 ((i : Int) % 64)] (.int .u64 (Bloom.p2 (i % 64))) := fun w =>
    (pow2_any (i % 64) w (by omega)).mono fun e w' ⟨he, hw⟩ => ⟨he, by subst hw; exact ext_refl _⟩
  have hp1 := Bloom.p2_pos (i % 64)
  have hp2 := Bloom.p2_lt (i % 64) (by omega)
  have HE : Hid (Bloom.hasm f i = ((f (i / 64) : Int) / (Bloom.p2 (i % 64) : Int) % 2 == 1)) := by
    rw [Hid, Bloom.hasm_eq, Bloom.p2_eq, Bool.eq_iff_iff]; simp only [beq_iff_eq]; rw [← Int.natCast_ediv]; omega
  generalize Bloom.p2 (i % 64) = P at *
  have hq := hf (i / 64)
  obtain ⟨d0, d1⟩ := div_bd (f (i / 64)) P 18446744073709551616 (by omega)
  have q0 : (0 : Int) ≤ (i : Int) / 64 := by omega
  have q1 : (i : Int) / 64 < 4 := by omega
  have q2 : ((i : Int) / 64).toNat = i / 64 := by omega
  go_enter Try.func43, Try.ntmps43
  go_wp2
  refine wp_gen (fun w' => Ext w w' ∧ w'.cell? ⟨w.heap.size, i / 64, none⟩ = some (.int .u64 (f (i / 64)))) ⟨(ext_refl _).new _, ?_⟩ ?_
  · exact ((Blk.new w 23 (Bloom.arr f)).cell (i / 64)).trans (Bloom.arr_get f _ (by omega))
  rintro wz ⟨B, c0⟩
  have k0 := cell_regrown c0
  refine wp_region_quiet_below (by kernel_rfl) (by kernel_rfl) ?_
  repeat (go_big_quiet_step ((go_at_call 44; exact G.quiet _ _ _)))
  refine wpQuiet_nil ?_
  intro w9 hw9
  obtain ⟨p, rfl⟩ := hw9
  go_wp2
  go_returns
  exact ⟨ret_bool (by rw [HE.out]), B.then (ext_regrown wz p)⟩

set_option maxHeartbeats 400000 in
theorem marks_any (k : Int) (n : Nat) (s : ByteArray) (w : World) (h3 : n < 18446744073709551616) (h4 : s.size ≤ 140737488351232) :
    Calls Try.prog 45 #[.agg #[.int .i64 k, .int .u64 n, .string s]] w fun e w' => e = .returned (.agg #[.int .u8 (Bloom.mark0 ⟨k, n, s⟩), .int .u8 (Bloom.mark1 ⟨k, n, s⟩), .int .u8 (Bloom.mark2 ⟨k, n, s⟩)]) ∧ Ext w w' := by
  have G : Gives Try.prog 25 #[.agg #[.int .i64 k, .int .u64 n, .string s]] (.int .u64 (Bloom.hash ⟨k, n, s⟩)) := fun w => hash_any k n s w h3 h4
  have hl := Bloom.hash_lt ⟨k, n, s⟩
  have HM : Hid (Bloom.mark0 ⟨k, n, s⟩ = Bloom.hash ⟨k, n, s⟩ % 256 ∧ Bloom.mark1 ⟨k, n, s⟩ = Bloom.hash ⟨k, n, s⟩ / 1048576 % 256 ∧ Bloom.mark2 ⟨k, n, s⟩ = Bloom.hash ⟨k, n, s⟩ / 1099511627776 % 256) := ⟨rfl, rfl, rfl⟩
  generalize Bloom.hash ⟨k, n, s⟩ = h at *
  go_enter Try.func45, Try.ntmps45
  go_upto_region 1 with fail
  refine wp_gen (fun w' => Ext w w' ∧ Blk w' w.heap.size 26 #[.int .i64 k, .int .u64 n, .string s] ∧ Blk w' (w.heap.size + 1) 70 #[.int .u8 0, .int .u8 0, .int .u8 0]) ⟨((ext_refl _).new _).new _, (Blk.new _ _ _).alloc _, by simpa using Blk.new (w.alloc _) 70 #[.int .u8 0, .int .u8 0, .int .u8 0]⟩ ?_
  rintro wz ⟨B, B1, B2⟩
  have c0 := B1.cell 0
  have c1 := B1.cell 1
  have c2 := B1.cell 2
  go_wp2_with (go_at_call 25; refine (G _).mono ?_; rintro e w2 ⟨rfl, b2⟩; have B3 := B2.keep b2; have e0 := B3.cell 0; have e1 := B3.cell 1; have e2 := B3.cell 2; have f0 := B3.frozen 0; have f1 := B3.frozen 1; have f2 := B3.frozen 2)
  obtain ⟨m0, m1, m2⟩ := HM.out
  have hz := B.size
  have hz2 : w.heap.size ≤ w.heap.size + 1 := by omega
  refine bodyPost_ret (v := .agg #[.int .u8 ((h : Int) % 256), .int .u8 ((h : Int) / 1048576 % 256), .int .u8 ((h : Int) / 1099511627776 % 256)]) (by simp [results, Try.results45, go_sem, e0, e1, e2]) rfl ⟨?_, ?_⟩
  · rw [m0, m1, m2]; rfl
  · exact (((B.then b2).put hz2 _).put hz2 _).put hz2 _

set_option maxHeartbeats 400000 in
theorem marksAt_any (k : Int) (n : Nat) (s : ByteArray) (w : World) (h3 : n < 18446744073709551616) (h4 : s.size ≤ 140737488351232) :
    Calls Try.prog 42 #[.agg #[.int .i64 k, .int .u64 n, .string s]] w (Slice3 (Bloom.mark0 ⟨k, n, s⟩) (Bloom.mark1 ⟨k, n, s⟩) (Bloom.mark2 ⟨k, n, s⟩) w) := by
  have G : Gives Try.prog 26 #[.agg #[.int .i64 k, .int .u64 n, .string s]] (.int .u64 (Bloom.hash ⟨k, n, s⟩)) := fun w => hashOf_any k n s w h3 h4
  have hl := Bloom.hash_lt ⟨k, n, s⟩
  have HM : Hid (Bloom.mark0 ⟨k, n, s⟩ = Bloom.hash ⟨k, n, s⟩ % 256 ∧ Bloom.mark1 ⟨k, n, s⟩ = Bloom.hash ⟨k, n, s⟩ / 1048576 % 256 ∧ Bloom.mark2 ⟨k, n, s⟩ = Bloom.hash ⟨k, n, s⟩ / 1099511627776 % 256) := ⟨rfl, rfl, rfl⟩
  generalize Bloom.hash ⟨k, n, s⟩ = h at *
  go_enter Try.func42, Try.ntmps42
  go_wp2_with (go_at_call 26; refine (G _).mono ?_; rintro e w2 ⟨rfl, b2⟩)
  go_returns
  obtain ⟨m0, m1, m2⟩ := HM.out
  refine ⟨w2.heap.size, rfl, ?_, ((((ext_refl _).new _).then b2).new _)⟩
  rw [m0, m1, m2]
  exact Blk.new w2 3 _

end Go.Proofs.Ytiamfjfbmgijhaa
