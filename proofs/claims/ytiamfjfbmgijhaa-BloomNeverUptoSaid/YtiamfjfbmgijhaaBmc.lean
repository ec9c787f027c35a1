/- Bloom: the document's filter of a list. -/
import Derived.Test.YtiamfjfbmgijhaaBly
namespace Hy.Bloom
def mk3 (m0 m1 m2 : Nat) : Nat → Nat := fun k => if k = 0 then m0 else if k = 1 then m1 else m2
theorem mk3_get (m0 m1 m2 k : Nat) (h : k < 3) : (#[.int .i64 (m0 : Nat), .int .i64 (m1 : Nat), .int .i64 (m2 : Nat)] : Array Go.Value)[k]? = some (.int .i64 (mk3 m0 m1 m2 k : Nat)) := by
  match k, h with
  | 0, _ => rfl
  | 1, _ => rfl
  | 2, _ => rfl
def setn (f : F) (M : Nat → Nat) : Nat → F | 0 => f | k + 1 => setm (setn f M k) (M k)
theorem setn3 (f : F) (c : C) : setn f (mk3 (mark0 c) (mark1 c) (mark2 c)) 3 = add f c := rfl
theorem setm_sum (f : F) (m : Nat) (h : hasm f m = false) : setm f m = upd f (m / 64) (f (m / 64) + p2 (m % 64)) := by
  rw [setm_upd, p2_eq, or_sum _ _ h]
theorem sum_lt (f : F) (m : Nat) (hf : f.ok) (h : hasm f m = false) : f (m / 64) + p2 (m % 64) < 18446744073709551616 := by
  have := setm_ok hf m (m / 64)
  rw [setm_sum f m h] at this
  simpa [upd] using this
end Hy.Bloom
namespace Go.Proofs.Ytiamfjfbmgijhaa
open Go.RowKit Hy

set_option maxHeartbeats 2000000 in
theorem filterOf_any (f : Bloom.F) (l : List C) (len : Nat) (A : Option Addr) (cap : Nat) (w : World) (hf : f.ok) (hr : Rd w A (l.flatMap C.cells)) (hok : C.okL l) (hl : l.length = len) (hlen : len ≤ 140737488351232) :
    Calls Try.prog 27 #[.agg #[.int .u64 (f 0), .int .u64 (f 1), .int .u64 (f 2), .int .u64 (f 3)], .slice A len cap] w fun e w' => e = .returned (.agg #[.int .u64 (Bloom.of f l 0), .int .u64 (Bloom.of f l 1), .int .u64 (Bloom.of f l 2), .int .u64 (Bloom.of f l 3)]) ∧ Ext w w' := by
  subst hl
  have HR := hid hr
  have HK := hid hok
  clear hr hok
  go_enter Try.func27, Try.ntmps27
  go_wp2
  go_loopw [5] (fun i wr => ∃ (k : Nat) (F : Bloom.F), k ≤ l.length ∧ i = .int .i64 k ∧ F.ok ∧ Hid (F = Bloom.of f (l.take k)) ∧ Blk wr w.heap.size 23 (Bloom.arr F) ∧ Blk wr (w.heap.size + 1) 23 #[.int .u64 0, .int .u64 0, .int .u64 0, .int .u64 0] ∧ Ext w wr)
    (fun i _ => l.length - (intOf i).toNat)
  case atStart => exact ⟨0, f, Nat.zero_le _, rfl, hf, rfl, (Blk.new w 23 (Bloom.arr f)).alloc _, by simpa using Blk.new (w.alloc _) 23 #[.int .u64 0, .int .u64 0, .int .u64 0, .int .u64 0], ((ext_refl _).new _).new _⟩
  case round =>
    obtain ⟨k, F, hk, rfl, hF, HF, B1, B2, B⟩ := hrel
    have HR2 := hid (HR.out.keep B)
    by_cases hlt : k < l.length
    · obtain ⟨b, o, rfl, hb, hc⟩ := Rd.cell3 (f := C.cells) (fun _ => rfl) HR2.out hlt
      have c0 := hc 0 _ (by decide) rfl
      have c1 := hc 1 _ (by decide) rfl
      have c2 := hc 2 _ (by decide) rfl
      simp only [Nat.add_zero] at c0
      have hcok := HK.out l[k] (List.getElem_mem hlt)
      have HS : Hid (Bloom.of f (l.take (k + 1)) = Bloom.setn F (Bloom.mk3 (Bloom.mark0 l[k]) (Bloom.mark1 l[k]) (Bloom.mark2 l[k])) 3) := by
        rw [HF.out, List.take_succ_eq_append_getElem hlt, Bloom.of_snoc]; rfl
      have g0 := Bloom.mark0_lt l[k]
      have g1 := Bloom.mark1_lt l[k]
      have g2 := Bloom.mark2_lt l[k]
      clear hc hb HR HR2 HK HF
      generalize l[k] = c at *
      obtain ⟨ck, cn, cs⟩ := c
      obtain ⟨h3, h4⟩ := hcok
      dsimp only at *
      have HC := hid (fun w => marksAt_any ck cn cs w h3 h4)
      generalize Bloom.mark0 ⟨ck, cn, cs⟩ = m0 at *
      generalize Bloom.mark1 ⟨ck, cn, cs⟩ = m1 at *
      generalize Bloom.mark2 ⟨ck, cn, cs⟩ = m2 at *
      have HM : Hid (∀ q, Bloom.mk3 m0 m1 m2 q < 256) := fun q => by unfold Bloom.mk3; split; exact g0; split; exact g1; exact g2
      go_wp2_with (go_at_call 42; refine (HC.out _).mono ?_; rintro e w2 ⟨g, rfl, B3, b2⟩; replace B := B.then b2; replace B1 := B1.keep b2; replace B2 := B2.keep b2)
      clear c0 c1 c2 HC h3 h4 g0 g1 g2 b2
      go_loopw [7] (fun i wr => ∃ (j : Nat) (G : Bloom.F), j ≤ 3 ∧ i = .int .i64 j ∧ G.ok ∧ Hid (G = Bloom.setn F (Bloom.mk3 m0 m1 m2) j) ∧ Blk wr w.heap.size 23 (Bloom.arr G) ∧ Blk wr (w.heap.size + 1) 23 #[.int .u64 0, .int .u64 0, .int .u64 0, .int .u64 0] ∧ Blk wr g 3 #[.int .i64 m0, .int .i64 m1, .int .i64 m2] ∧ Ext w wr)
        (fun i _ => 3 - (intOf i).toNat)
      case atStart => exact ⟨0, F, Nat.zero_le _, rfl, hF, rfl, B1, B2, B3, B⟩
      case round =>
        clear B1 B2 B3 B hF
        obtain ⟨j, G, hj, rfl, hG, HG, B1, B2, B3, B⟩ := hrel
        by_cases hj3 : j < 3
        · have hm := HM.out j
          have HS3 : Hid (Bloom.setn F (Bloom.mk3 m0 m1 m2) (j + 1) = Bloom.setm G (Bloom.mk3 m0 m1 m2 j)) := by rw [HG.out]; rfl
          have HD := hid (Bloom.mk3_get m0 m1 m2 j hj3)
          generalize Bloom.mk3 m0 m1 m2 j = m at *
          clear HM
          have Gv : Gives Try.prog 43 #[.agg #[.int .u64 (G 0), .int .u64 (G 1), .int .u64 (G 2), .int .u64 (G 3)], .int .i64 m] (.bool (Bloom.hasm G m)) := fun w => hasMark_any G m w hG hm
          cases hh : Bloom.hasm G m
          all_goals
            rw [hh] at Gv
            have HH := hid hh
            clear hh
            have HB1 := hid B1
            unfold Bloom.arr at B1
            have a0 := cell_regrown (B1.cell 0)
            have a1 := cell_regrown (B1.cell 1)
            have a2 := cell_regrown (B1.cell 2)
            have a3 := cell_regrown (B1.cell 3)
            have k0 := cell_regrown ((B3.cell j).trans HD.out)
            go_wp2
            refine wp_region_quiet_below (by kernel_rfl) (by kernel_rfl) ?_
            repeat (go_big_quiet_step ((go_at_call 43; exact Gv.quiet _ _ _)))
            refine wpQuiet_nil ?_
            intro w9 hw9
            obtain ⟨p, rfl⟩ := hw9
            have b9 := ext_regrown wr p
            replace B := B.then b9
            replace B2 := B2.keep b9
            replace B3 := B3.keep b9
            have B4 := HB1.out.keep b9
            clear a0 a1 a2 a3 k0 B1 HB1
            generalize Go.Sort.grow (redrawn wr p.d) p.os = w6 at *
            clear b9
          · have hq := hG (m / 64)
            have hsum := Bloom.sum_lt G m hG HH.out
            have HU := hid (Bloom.setm_sum G m HH.out)
            have hp2 := Bloom.p2_lt (m % 64) (by omega)
            have hdiv : IntKind.i64.wrap ((m : Int).tdiv 64) = (m : Int) / 64 := IntWalk.i64_quo _ _ (by omega)
            have hdiv2 : IntKind.i64.wrap ((m : Int) / 64) = (m : Int) / 64 := IntWalk.i64_in _ (by omega)
            have P2 : Hid (∀ w, Calls Try.prog 44 #[.int .i64 ((m : Int) % 64)] w fun e w'' => e = .returned (.int .u64 (Bloom.p2 (m % 64))) ∧ w'' = w) := fun w => (pow2_any (m % 64) w (by omega)).mono fun e w' ⟨he, hw⟩ => ⟨he, hw.symm⟩
            have hrem : (m : Int).tmod 64 = (m : Int) % 64 := IntWalk.rem_in _ _ (by omega)
            have hadd : IntKind.u64.wrap ((G (m / 64) : Int) + (Bloom.p2 (m % 64) : Int)) = (G (m / 64) : Int) + (Bloom.p2 (m % 64) : Int) := IntWalk.u64_in _ (by omega)
            have q0 : ((m : Int) / 64).toNat = m / 64 := by omega
            have q1 : (0 : Int) ≤ (m : Int) / 64 := by omega
            have q2 : (m : Int) / 64 < 4 := by omega
            go_wp2
            refine wp_region_still_tail 15 (by kernel_rfl) (by kernel_rfl) ?_
            have k0 : w6.cell? ⟨g, j, none⟩ = some (.int .i64 m) := (B3.cell j).trans HD.out
            have k1 : w6.cell? ⟨w.heap.size, m / 64, none⟩ = some (.int .u64 (G (m / 64))) := (B4.cell (m / 64)).trans (Bloom.arr_get G _ (by omega))
            show wpStill Try.prog _ w6.drew _ _ _
            simp only [List.take_succ_cons, List.take_zero, List.drop_succ_cons, List.drop_zero]
            repeat (first | still_step | still_call (P2.out _))
            refine wpStill_nil ?_
            show wpList Try.prog _ _ _ _ w6.drew
            have f0 := B4.frozen (m / 64)
            go_wp2
            go_roundw
            case rel =>
              refine ⟨j + 1, Bloom.setm G m, by omega, by go_num, Bloom.setm_ok hG m, HS3.out.symm, ?_, ?_, ?_, ?_⟩
              · rw [HU.out, ← Bloom.arr_set _ _ _ (by omega)]
                exact ((B4.set (m / 64) _).drew)
              · exact (B2.far (by simp) _).drew
              · exact (B3.far (B3.ne B4 (by decide)) _).drew
              · exact (B.put (Nat.le_refl _) _).draw
            case measure => simp [intOf]; omega
          · go_wp2
            go_roundw
            case rel => exact ⟨j + 1, G, by omega, by go_num, hG, by rw [Hid, HS3.out, Bloom.setm_of G m HH.out], B4, B2, B3, B⟩
            case measure => simp [intOf]; omega
        · have e : j = 3 := by omega
          subst e
          go_wp2
          go_roundw
          case rel => exact ⟨k + 1, G, by omega, by go_num, hG, by rw [Hid, HG.out, HS.out], B1, B2, B⟩
          case measure => simp [intOf]; omega
    · have HE : Hid (F = Bloom.of f l) := by rw [Hid, HF.out, List.take_of_length_le (by omega)]
      have a0 := B1.cell 0
      have a1 := B1.cell 1
      have a2 := B1.cell 2
      have a3 := B1.cell 3
      unfold Bloom.arr at a0 a1 a2 a3
      have d0 := B2.cell 0
      have d1 := B2.cell 1
      have d2 := B2.cell 2
      have d3 := B2.cell 3
      have e0 := B2.frozen 0
      have e1 := B2.frozen 1
      have e2 := B2.frozen 2
      have e3 := B2.frozen 3
      clear HR HR2 HK
      have hz3 : w.heap.size ≤ w.heap.size + 1 := by omega
      go_wp2
      refine bodyPost_ret (v := .agg #[.int .u64 (F 0), .int .u64 (F 1), .int .u64 (F 2), .int .u64 (F 3)]) (by simp [results, Try.results27, go_sem, d0, d1, d2, d3]) rfl ⟨?_, ?_⟩
      · rw [← HE.out]
      · exact (((B.put hz3 _).put hz3 _).put hz3 _).put hz3 _
end Go.Proofs.Ytiamfjfbmgijhaa
