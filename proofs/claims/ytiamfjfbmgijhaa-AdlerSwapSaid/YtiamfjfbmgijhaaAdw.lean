/- The walks of adler's small functions. -/
import Derived.Test.YtiamfjfbmgijhaaRows
import Derived.Test.YtiamfjfbmgijhaaBase
import Derived.Test.YtiamfjfbmgijhaaAdl
namespace Go.Proofs.Ytiamfjfbmgijhaa
open Go.RowKit Hy

theorem and16 (c : Int) (h0 : 0 ≤ c) (h1 : c < 4294967296) : bits BinOp.and IntKind.u32 c 65535 = c % 65536 := by
  rw [u32_and c 65535 h0 h1 (by decide) (by decide)]
  have : (c.toNat &&& (65535 : Int).toNat) = c.toNat % 65536 := Nat.and_two_pow_sub_one_eq_mod c.toNat 16
  rw [this]; omega
theorem or16 (a b : Int) (h0 : 0 ≤ a) (h1 : a < 65536) (h2 : 0 ≤ b) (h3 : b < 65536) : bits BinOp.or IntKind.u32 (a * 65536) b = a * 65536 + b := by
  rw [u32_or (a * 65536) b (by omega) (by omega) h2 (by omega)]
  rw [nat_join 16 _ _ (by omega) (by omega)]; omega

set_option maxHeartbeats 400000 in
theorem halved_any (c : Int) (w : World) (h0 : 0 ≤ c) (h1 : c < 4294967296) :
    Calls Try.prog 35 #[.int .u32 c] w fun e w' => e = .returned (.agg #[.int .u64 (Adler.lo c), .int .u64 (Adler.up c)]) ∧ Ext w w' := by
  have hb := and16 c h0 h1
  unfold Adler.lo Adler.up
  go_enter Try.func35, Try.ntmps35
  go_wp2
  go_returns
  exact ⟨rfl, (ext_refl _).new _⟩

set_option maxHeartbeats 400000 in
theorem sum_any (a b : Int) (w : World) (h0 : 0 ≤ a) (h1 : a < 18446744073709551616) (h2 : 0 ≤ b) (h3 : b < 18446744073709551616) :
    Calls Try.prog 36 #[.agg #[.int .u64 a, .int .u64 b]] w fun e w' => e = .returned (.int .u32 (b % 65521 * 65536 + a % 65521)) ∧ Ext w w' := by
  have hb := or16 (b % 65521) (a % 65521) (by omega) (by omega) (by omega) (by omega)
  go_enter Try.func36, Try.ntmps36
  go_wp2
  go_returns
  exact ⟨rfl, (ext_refl _).new _⟩

set_option maxHeartbeats 400000 in
theorem add_any (a b x : Int) (g : Nat) (w : World) (hc0 : w.cell? ⟨g, 0, none⟩ = some (.int .u64 a)) (hc1 : w.cell? ⟨g, 1, none⟩ = some (.int .u64 b)) (hf0 : w.frozen? ⟨g, 0, none⟩ = false) (hf1 : w.frozen? ⟨g, 1, none⟩ = false) (h0 : 0 ≤ a) (h1 : a < 65521) (h2 : 0 ≤ b) (h3 : b < 65521) (h4 : 0 ≤ x) (h5 : x < 256) :
    Calls Try.prog 37 #[.pointer (some ⟨g, 0, none⟩), .int .u8 x] w fun e w' => e = .returned (.tuple #[]) ∧ w' = ((w.setCell ⟨g, 0, none⟩ (.int .u64 ((a + x) % 65521))).setCell ⟨g, 1, none⟩ (.int .u64 ((b + (a + x)) % 65521))).drew := by
  go_enter Try.func37, Try.ntmps37
  go_wp2
  go_region
  go_wp2
  go_returns
  exact ⟨rfl, rfl⟩

set_option maxHeartbeats 400000 in
theorem more_any (c : Nat) (s : ByteArray) (w : World) (h1 : (c : Int) < 4294967296) (hs : s.size ≤ maxLen) :
    Calls Try.prog 22 #[.int .u32 c, .string s] w fun e w' => e = .returned (.int .u32 (Adler.more c s.data.toList)) ∧ Ext w w' := by
  unfold maxLen at hs
  go_enter Try.func22, Try.ntmps22
  go_wp2_with (go_at_call 35; refine (halved_any c _ (by omega) h1).mono ?_; rintro e w1 ⟨rfl, hb1⟩)
  go_loopw [6] (fun i wr => ∃ k : Nat, k ≤ s.size ∧ i = .int .i64 k ∧ Blk wr w1.heap.size 57 #[.int .u64 (Adler.ad (Adler.halves c) (s.data.toList.take k)).1, .int .u64 (Adler.ad (Adler.halves c) (s.data.toList.take k)).2] ∧ Ext w wr)
     (fun i _ => s.size - (intOf i).toNat)
  case atStart => exact ⟨0, Nat.zero_le _, rfl, by rw [Adler.lo_nat, Adler.up_nat]; exact Blk.new _ _ _, hb1.new _⟩
  case round =>
    obtain ⟨k, hk, rfl, hblk, hbel⟩ := hrel
    obtain ⟨hA, hB⟩ := Adler.ad_lt _ (s.data.toList.take k) (Adler.halves_lt c).1 (Adler.halves_lt c).2
    have HS : Hid (∀ h : k < s.size, Adler.ad (Adler.halves c) (s.data.toList.take (k + 1)) = _) := fun h => by rw [take_snoc s k h, Adler.ad_snoc]
    have HE : Hid (k = s.size → Adler.more c s.data.toList = Adler.sum (Adler.ad (Adler.halves c) (s.data.toList.take k))) := fun h => by rw [h, take_all]; rfl
    generalize Adler.ad (Adler.halves c) (s.data.toList.take k) = p at *
    obtain ⟨lo, up⟩ := p
    dsimp only at *
    have c0 := hblk.cell 0
    have c1 := hblk.cell 1
    have f0 := hblk.frozen 0
    have f1 := hblk.frozen 1
    by_cases hlt : k < s.size
    · have hx : s[k].toNat < 256 := s[k].toNat_lt
      go_wp2_with (go_at_call 37; refine (add_any _ _ _ _ _ c0 c1 f0 f1 (by omega) (by omega) (by omega) (by omega) (by omega) (by omega)).mono ?_; rintro e w2 ⟨rfl, rfl⟩)
      go_roundw
      case rel =>
        refine ⟨k + 1, by omega, by go_num, ?_, ((hbel.put hb1.size _).put hb1.size _).draw⟩
        rw [HS.out hlt]
        exact ((hblk.set 0 _).set 1 _).drew
      case measure => simp [intOf]; omega
    · go_wp2_with (go_at_call 36; refine (sum_any _ _ _ (by omega) (by omega) (by omega) (by omega)).mono ?_; rintro e w2 ⟨rfl, hb2⟩)
      go_returns
      refine ⟨ret_int ?_, hbel.then hb2⟩
      rw [HE.out (by omega)]; simp only [Adler.sum]; omega

theorem of_any (s : ByteArray) (w : World) (hs : s.size ≤ maxLen) :
    Calls Try.prog 20 #[.string s] w fun e w' => e = .returned (.int .u32 (Adler.more 1 s.data.toList)) ∧ Ext w w' := by
  go_enter Try.func20, Try.ntmps20
  go_wp2_with (go_at_call 22; refine (more_any 1 s _ (by decide) hs).mono ?_; rintro e w2 ⟨rfl, hb2⟩)
  go_returns
  exact ⟨rfl, hb2⟩
end Go.Proofs.Ytiamfjfbmgijhaa
