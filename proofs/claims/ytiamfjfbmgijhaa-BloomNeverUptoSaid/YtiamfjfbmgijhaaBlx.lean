/- Bloom: the walks of marks and filters. -/
import Derived.Test.YtiamfjfbmgijhaaBlw
namespace Go.Proofs.Ytiamfjfbmgijhaa
open Go.RowKit Hy

set_option maxHeartbeats 400000 in
theorem hashOf_any (k : Int) (n : Nat) (s : ByteArray) (w : World) (h3 : n < 18446744073709551616) (h4 : s.size ≤ 140737488351232) :
    Calls Try.prog 26 #[.agg #[.int .i64 k, .int .u64 n, .string s]] w fun e w' => e = .returned (.int .u64 (Bloom.hash ⟨k, n, s⟩)) ∧ Ext w w' := by
  have G1 : Gives Try.prog 40 #[.int .i64 k] (.string ⟨#[Bloom.kb k]⟩) := fun w => oneByte_any k w
  have G2 : Gives Try.prog 41 #[.int .u64 n, .int .i64 8] (.string ⟨(Bloom.be n 8).toArray⟩) := fun w => bigBytes_any n 8 w h3 (by decide)
  obtain ⟨b8, hb8⟩ : ∃ b : ByteArray, b = ⟨(Bloom.be n 8).toArray⟩ := ⟨_, rfl⟩
  rw [← hb8] at G2
  have hs8 : b8.size = 8 := by rw [hb8]; exact Bloom.be_length n 8
  have hs8' : b8.size ≤ 8 := by omega
  clear hs8
  obtain ⟨X, hX⟩ : ∃ X, ByteArray.mk #[Bloom.kb k] ++ b8 ++ s = X := ⟨_, rfl⟩
  have HX : Hid (X.data.toList = Bloom.bytes ⟨k, n, s⟩ ∧ X.size ≤ 140737488351241) := by
    subst hX
    refine ⟨?_, ?_⟩
    · rw [hb8, app_list, app_list]; rfl
    · rw [ByteArray.size_append, ByteArray.size_append]; show 1 + b8.size + s.size ≤ _; omega
  clear hb8
  go_enter Try.func26, Try.ntmps26
  go_wp2
  refine wp_gen (fun w' => Ext w w' ∧ w'.cell? ⟨w.heap.size, 0, none⟩ = some (.int .i64 k) ∧ w'.cell? ⟨w.heap.size, 1, none⟩ = some (.int .u64 n) ∧ w'.cell? ⟨w.heap.size, 2, none⟩ = some (.string s)) ⟨(ext_refl _).new _, by simp [go_sem], by simp [go_sem], by simp [go_sem]⟩ ?_
  rintro wz ⟨B, c0, c1, c2⟩
  have k0 := cell_regrown c0
  have k1 := cell_regrown c1
  have k2 := cell_regrown c2
  refine wp_region_quiet_below (by kernel_rfl) (by kernel_rfl) ?_
  repeat (go_big_quiet_step ((first
    | (go_at_call 40; exact G1.quiet _ _ _)
    | (go_at_call 41; exact G2.quiet _ _ _))))
  refine wpQuiet_nil ?_
  intro w9 hw9
  obtain ⟨p, rfl⟩ := hw9
  have b9 := B.then (ext_regrown wz p)
  generalize Go.Sort.grow (redrawn wz p.d) p.os = w6 at *
  clear k0 k1 k2 c0 c1 c2 hX
  have hXs := HX.out.2
  go_wp2
  go_loop [6, 4, 5] (fun lo hh i => ∃ (j x : Nat), j ≤ X.size ∧ i = .int .i64 j ∧ hh = .int .u64 x ∧ x < 18446744073709551616 ∧ Hid (x = Bloom.fnv Bloom.start (X.data.toList.take j)))
    (fun _ _ i => X.size - (intOf i).toNat)
  case atStart => exact ⟨0, Bloom.start, Nat.zero_le _, rfl, by rw [Bloom.start_int], Bloom.start_lt, rfl⟩
  case round =>
    obtain ⟨j, x, hj, rfl, rfl, hx, HXX⟩ := hrel
    by_cases hlt : j < X.size
    · have HS : Hid (Bloom.fnv Bloom.start (X.data.toList.take (j + 1)) = Bloom.step x X[j]) := by
        rw [HXX.out, take_snoc X j hlt, Bloom.fnv_snoc]; rfl
      generalize hu : X[j] = u at *
      have hu256 := u.toNat_lt
      have hb := i64_xor_nat (x % 256) u.toNat (by omega) (by omega)
      have hy : (x % 256 ^^^ u.toNat) < 256 := Nat.xor_lt_two_pow (n := 8) (by omega) (by omega)
      have HY : Hid (x - x % 256 + ((x % 256) ^^^ u.toNat) = x ^^^ u.toNat) := Bloom.xor_low x u.toNat (by omega)
      generalize (x % 256 ^^^ u.toNat) = y at *
      rw [show ((x % 256 : Nat) : Int) = (x : Int) % 256 from rfl] at hb
      go_wp2
      go_round
      case rel =>
        refine ⟨j + 1, Bloom.step x u, by omega, by go_num, ?_, Bloom.step_lt _ _, HS.out.symm⟩
        rw [← Bloom.step_int, ← HY.out]
        congr 2
        omega
      case measure => simp [intOf]; omega
    · go_wp2
      go_returns
      refine ⟨ret_int ?_, b9⟩
      rw [HXX.out, show j = X.size from by omega, take_all, HX.out.1]; rfl
end Go.Proofs.Ytiamfjfbmgijhaa
