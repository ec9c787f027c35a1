/- Bloom: the document's union. -/
import Derived.Test.YtiamfjfbmgijhaaBmc
namespace Hy.Bloom
def part (u : F) (i : Nat) : F := fun j => u j % 2 ^ (min (i - 64 * j) 64)
theorem part_zero (u : F) (j : Nat) : part u 0 j = 0 := by
  unfold part; rw [show min (0 - 64 * j) 64 = 0 from by omega]; omega
theorem part_ok (u : F) (hu : u.ok) (i : Nat) : (part u i).ok := fun j => Nat.lt_of_le_of_lt (Nat.mod_le _ _) (hu j)
theorem part_all (u : F) (hu : u.ok) (j : Nat) (hj : j < 4) : part u 256 j = u j := by
  unfold part; rw [show min (256 - 64 * j) 64 = 64 from by omega]
  exact Nat.mod_eq_of_lt (by have := hu j; omega)
theorem part_far (u : F) (i j : Nat) (h : j ≠ i / 64) : part u (i + 1) j = part u i j := by
  unfold part
  rcases Nat.lt_or_gt_of_ne h with h | h
  · rw [show min (i + 1 - 64 * j) 64 = 64 from by omega, show min (i - 64 * j) 64 = 64 from by omega]
  · rw [show min (i + 1 - 64 * j) 64 = 0 from by omega, show min (i - 64 * j) 64 = 0 from by omega]
theorem part_at (u : F) (i : Nat) : part u (i + 1) (i / 64) = part u i (i / 64) + 2 ^ (i % 64) * (u (i / 64) / 2 ^ (i % 64) % 2) := by
  unfold part
  rw [show min (i + 1 - 64 * (i / 64)) 64 = i % 64 + 1 from by omega, show min (i - 64 * (i / 64)) 64 = i % 64 from by omega, Nat.mod_pow_succ]
theorem hasm_div (f : F) (m : Nat) : (f (m / 64) / 2 ^ (m % 64) % 2 = 1) ↔ hasm f m = true := by rw [hasm_eq]; simp
theorem part_yes (u : F) (i : Nat) (h : hasm u i = true) : part u (i + 1) = upd (part u i) (i / 64) (part u i (i / 64) + p2 (i % 64)) := by
  funext j; unfold upd; split
  · rename_i e; rw [e, part_at, (hasm_div u i).2 h, p2_eq, Nat.mul_one]
  · exact part_far u i j (by assumption)
theorem part_no (u : F) (i : Nat) (h : hasm u i = false) : part u (i + 1) = part u i := by
  funext j
  by_cases e : j = i / 64
  · rw [e, part_at]
    have : u (i / 64) / 2 ^ (i % 64) % 2 ≠ 1 := fun hh => by rw [(hasm_div u i).1 hh] at h; cases h
    rw [show u (i / 64) / 2 ^ (i % 64) % 2 = 0 from by omega]; omega
  · exact part_far u i j e
theorem hasm_union (a b : F) (i : Nat) : hasm (union a b) i = (hasm a i || hasm b i) := by unfold hasm union; rw [Nat.testBit_or]
theorem arr_part (u : F) (hu : u.ok) : arr (part u 256) = arr u := by
  unfold arr; rw [part_all u hu 0 (by decide), part_all u hu 1 (by decide), part_all u hu 2 (by decide), part_all u hu 3 (by decide)]
theorem arr_zero (u : F) : arr (part u 0) = #[.int .u64 0, .int .u64 0, .int .u64 0, .int .u64 0] := by
  unfold arr; rw [part_zero, part_zero, part_zero, part_zero]; rfl
end Hy.Bloom
namespace Go.Proofs.Ytiamfjfbmgijhaa
open Go.RowKit Hy

set_option maxHeartbeats 2000000 in
theorem unionOf_any (a b : Bloom.F) (w : World) (ha : a.ok) (hb : b.ok) :
    Calls Try.prog 30 #[.agg #[.int .u64 (a 0), .int .u64 (a 1), .int .u64 (a 2), .int .u64 (a 3)], .agg #[.int .u64 (b 0), .int .u64 (b 1), .int .u64 (b 2), .int .u64 (b 3)]] w fun e w' => e = .returned (.agg #[.int .u64 (Bloom.union a b 0), .int .u64 (Bloom.union a b 1), .int .u64 (Bloom.union a b 2), .int .u64 (Bloom.union a b 3)]) ∧ Ext w w' := by
  have hu := Bloom.union_ok ha hb
  have HU := hid (Bloom.hasm_union a b)
  generalize Bloom.union a b = u at *
  go_enter Try.func30, Try.ntmps30
  go_wp2
  go_loopw [6] (fun i wr => ∃ k : Nat, k ≤ 256 ∧ i = .int .i64 k ∧ Blk wr w.heap.size 23 (Bloom.arr a) ∧ Blk wr (w.heap.size + 1) 23 (Bloom.arr b) ∧ Blk wr (w.heap.size + 2) 23 #[.int .u64 0, .int .u64 0, .int .u64 0, .int .u64 0] ∧ Blk wr (w.heap.size + 3) 23 (Bloom.arr (Bloom.part u k)) ∧ Ext w wr)
    (fun i _ => 256 - (intOf i).toNat)
  case atStart =>
    refine ⟨0, Nat.zero_le _, rfl, (((Blk.new w 23 (Bloom.arr a)).alloc _).alloc _).alloc _, Blk.alloc (Blk.alloc (Blk.newAt (by simp)) _) _, Blk.alloc (Blk.newAt (by simp)) _, ?_, ((((ext_refl _).new _).new _).new _).new _⟩
    rw [Bloom.arr_zero]; exact Blk.newAt (by simp)
  case round =>
    obtain ⟨k, hk, rfl, B1, B2, B3, B4, B⟩ := hrel
    by_cases hlt : k < 256
    · have Ga : Gives Try.prog 43 #[.agg #[.int .u64 (a 0), .int .u64 (a 1), .int .u64 (a 2), .int .u64 (a 3)], .int .i64 k] (.bool (Bloom.hasm a k)) := fun w => hasMark_any a k w ha hlt
      have Gb : Gives Try.prog 43 #[.agg #[.int .u64 (b 0), .int .u64 (b 1), .int .u64 (b 2), .int .u64 (b 3)], .int .i64 k] (.bool (Bloom.hasm b k)) := fun w => hasMark_any b k w hb hlt
      have HP := hid (HU.out k)
      have HF := hid (Bloom.part_ok u hu k)
      have HFn := hid (Bloom.part_ok u hu (k + 1))
      have HA := hid ha
      have HB := hid hb
      have HUU := hid hu
      clear ha hb hu
      have HB1 := hid B1
      have HB2 := hid B2
      unfold Bloom.arr at B1 B2
      have a0 := B1.cell 0
      have a1 := B1.cell 1
      have a2 := B1.cell 2
      have a3 := B1.cell 3
      cases h1 : Bloom.hasm a k
      all_goals
        rw [h1] at Ga
        cases h2 : Bloom.hasm b k
        all_goals
          rw [h2] at Gb
          have HP2 := HP.out
          rw [h1, h2] at HP2
          replace HP2 := hid HP2
          clear h1 h2 HP HU
          have hI : (k : Int) < 256 := by omega
          clear hk hlt a0 a1 a2 a3
          have a0 := B1.cell 0
          have a1 := B1.cell 1
          have a2 := B1.cell 2
          have a3 := B1.cell 3
          go_wp2_with (first
            | (go_at_call_of 43 (Value.agg #[.int .u64 (a 0), .int .u64 (a 1), .int .u64 (a 2), .int .u64 (a 3)]); refine (Ga _).mono ?_; rintro e w2 ⟨rfl, b2⟩; replace B := B.then b2; replace B1 := B1.keep b2; replace B2 := B2.keep b2; replace B3 := B3.keep b2; replace B4 := B4.keep b2; have e0 := B2.cell 0; have e1 := B2.cell 1; have e2 := B2.cell 2; have e3 := B2.cell 3)
            | (go_at_call_of 43 (Value.agg #[.int .u64 (b 0), .int .u64 (b 1), .int .u64 (b 2), .int .u64 (b 3)]); refine (Gb _).mono ?_; rintro e w2 ⟨rfl, b2⟩; replace B := B.then b2; replace B1 := B1.keep b2; replace B2 := B2.keep b2; replace B3 := B3.keep b2; replace B4 := B4.keep b2))
          first
            | (go_roundw
               case rel => exact ⟨k + 1, by omega, by go_num, B1, B2, B3, by rw [Bloom.part_no u k HP2.out]; exact B4, B⟩
               case measure => simp [intOf]; omega)
            | (have HQ := hid (Bloom.part_yes u k HP2.out)
               have hq := HF.out (k / 64)
               have hn := HFn.out (k / 64)
               rw [HQ.out] at hn
               have hsum : Bloom.part u k (k / 64) + Bloom.p2 (k % 64) < 18446744073709551616 := by simpa [Bloom.upd] using hn
               clear hn HFn HF
               generalize Bloom.part u k = G at *
               have hp2 := Bloom.p2_lt (k % 64) (by omega)
               have P2 : Hid (∀ w, Calls Try.prog 44 #[.int .i64 ((k : Int) % 64)] w fun e w'' => e = .returned (.int .u64 (Bloom.p2 (k % 64))) ∧ w'' = w) := fun w => (pow2_any (k % 64) w (by omega)).mono fun e w' ⟨he, hw⟩ => ⟨he, hw.symm⟩
               have hdiv2 : IntKind.i64.wrap ((k : Int) / 64) = (k : Int) / 64 := IntWalk.i64_in _ (by omega)
               have hadd : IntKind.u64.wrap ((G (k / 64) : Int) + (Bloom.p2 (k % 64) : Int)) = (G (k / 64) : Int) + (Bloom.p2 (k % 64) : Int) := IntWalk.u64_in _ (by omega)
               have q0 : ((k : Int) / 64).toNat = k / 64 := by omega
               have q1 : (0 : Int) ≤ (k : Int) / 64 := by omega
               have q2 : (k : Int) / 64 < 4 := by omega
               have hz3 : w.heap.size ≤ w.heap.size + 3 := by omega
               refine wp_region_still_tail 9 (by kernel_rfl) (by kernel_rfl) ?_
               have k1 := (B4.cell (k / 64)).trans (Bloom.arr_get G _ (by omega))
               have f0 := B4.frozen (k / 64)
               change wpStill Try.prog _ (World.drew _) _ _ _
               simp only [List.take_succ_cons, List.take_zero, List.drop_succ_cons, List.drop_zero]
               repeat (first | still_step | still_call (P2.out _))
               refine wpStill_nil ?_
               change wpList Try.prog _ _ _ _ (World.drew _)
               go_wp2
               go_roundw
               case rel =>
                 refine ⟨k + 1, by omega, by go_num, (B1.far (by dsimp only; omega) _).drew, (B2.far (by dsimp only; omega) _).drew, (B3.far (by dsimp only; omega) _).drew, ?_, (B.put hz3 _).draw⟩
                 rw [HQ.out, ← Bloom.arr_set _ _ _ (by omega)]
                 exact (B4.set (k / 64) _).drew
               case measure => simp [intOf]; omega)
    · have e : k = 256 := by omega
      subst e
      have B5 := B4.cast (Bloom.arr_part u hu)
      unfold Bloom.arr at B5
      have a0 := B5.cell 0
      have a1 := B5.cell 1
      have a2 := B5.cell 2
      have a3 := B5.cell 3
      have d0 := B3.cell 0
      have d1 := B3.cell 1
      have d2 := B3.cell 2
      have d3 := B3.cell 3
      have e0 := B3.frozen 0
      have e1 := B3.frozen 1
      have e2 := B3.frozen 2
      have e3 := B3.frozen 3
      have hz3 : w.heap.size ≤ w.heap.size + 2 := by omega
      clear hk hlt HU B4 B5 ha hb hu
      go_wp2
      refine bodyPost_ret (v := .agg #[.int .u64 (u 0), .int .u64 (u 1), .int .u64 (u 2), .int .u64 (u 3)]) (by simp [results, Try.results30, go_sem, d0, d1, d2, d3]) rfl ⟨rfl, ?_⟩
      exact (((B.put hz3 _).put hz3 _).put hz3 _).put hz3 _
end Go.Proofs.Ytiamfjfbmgijhaa
