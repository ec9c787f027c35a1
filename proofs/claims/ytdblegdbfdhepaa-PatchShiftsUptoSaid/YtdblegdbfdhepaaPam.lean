/- Patch: the reader's frame: walk (printed by gen_pam.py). -/
import Derived.Test.YtdblegdbfdhepaaPak
import Derived.Test.YtdblegdbfdhepaaPal
import Derived.Test.YtdblegdbfdhepaaBup
import Derived.Test.YtdblegdbfdhepaaSto
namespace Go.Proofs.Ytdblegdbfdhepaa
open Go.RowKit Hy
/-- what frame answers -/
def PFr (g many : Nat) (s : List UInt8) (w : World) (e : Ending) (w' : World) : Prop :=
  ∃ (b : Nat) (V : Option Addr) (nv cv : Nat), e = .returned (.tuple #[.agg #[.int .u64 b, .slice V nv cv], .int .i64 ((Pat.fr s many).1 : Nat)]) ∧ Below g w w' ∧
    ((Pat.fr s many).1 = 0 → b = (Pat.fr s many).2.1 ∧ w'.ownsRow (w.heap.size + 1) 33 1 (.slice V nv cv) many (u64s (Pat.fr s many).2.2))

set_option maxHeartbeats 1600000 in
theorem pFrame_vary (s : List UInt8) (many g : Nat) (w : World) (h : PRd g w s) (hs : s.length ≤ 281474976710656) (hm : many ≤ 64) (a k e0 : Nat) (hrd : Vary.rd s = (a, k, e0)) (hk : k ≤ s.length) (ha : a < 18446744073709551616) (he : e0 ≠ 0) :
    Calls Try.prog 71 #[.pointer (some ⟨g, 0, none⟩), .int .i64 many] w (PFr g many s w) := by
  have HGL := hid (show g < w.heap.size from Blk.lt h)
  have HP0 := hid (show PRd g (w.alloc (.cells #[.int .u64 0, .slice none 0 0] 67)) s from Blk.alloc h _)
  have HB0 := hid (Blk.new w 67 #[.int .u64 0, .slice none 0 0])
  have HX0 := hid ((Below.refl g w).alloc (Nat.le_of_lt (Blk.lt h)) (.cells #[.int .u64 0, .slice none 0 0] 67))
  have HNE := hid (show w.heap.size ≠ g from (Nat.ne_of_lt (Blk.lt h)).symm)
  have HNU := hid (fun (wx : World) (h : PRd g wx s) => pNumber_any s g wx h hs a k e0 hrd hk)
  have hmI : (many : Int) ≤ 64 := by omega
  have haI : (a : Int) ≤ 18446744073709551615 := by omega
  have h5 : ((e0 : Int) != 0) = true := by rw [bne_iff_ne]; omega
  have h6 : ((e0 : Int) == 0) = false := by rw [beq_eq_false_iff_ne]; omega
  unfold PFr
  rw [Pat.fr_vary hrd he]
  have HE := hid he
  clear h hs hm hrd hk ha he
  go_enter Try.func71, Try.ntmps71
  go_wp2_with fail
  refine Calls.mono (HNU.out _ HP0.out) ?_
  rintro e w1 ⟨rfl, hst, hb⟩
  have hB1 := HB0.out.but hb HNE.out
  have HB1 := hid hB1
  have HST1 := hid hst
  have HX1 := hid (Below.trans HX0.out (hb.below (Nat.le_refl g) (Nat.le_trans (Nat.le_of_lt HGL.out) HX0.out.size)))
  have HS1 := hid (Nat.lt_of_lt_of_le (show w.heap.size < (w.alloc (.cells #[.int .u64 0, .slice none 0 0] 67)).heap.size by simp) hb.size)
  have hc0 := hB1.cell 0
  have hc1 := hB1.cell 1
  have hf0 := hB1.frozen 0
  clear hst hb hB1
  go_wp2_with (with_reducible (show wpList _ _ _ (⟨none, .store 67 (.tmp 4) (.tmp 18), _, _, _, _⟩ :: _) _ _); go_loud (refine wpList_store_blk rfl 67 (.tmp 4) (.tmp 18) rfl w.heap.size #[.int .u64 (a : Int), .slice none 0 0] rfl rfl 67 _ ((HB1.out.set 0 (.int .u64 (a : Int))).cast rfl) (by kernel_rfl) rfl (by simp [Value.oneCell']) w.heap.size (Nat.le_refl _) ?_; intro w6 hB6 hF6 hL6; have HB6 := hid hB6; have HF6 := hid hF6; have HL6 := hid hL6; clear hB6 hF6 hL6))
  refine bodyPost_ret (results_blk2 rfl _ _ w.heap.size 67 _ _ rfl HB6.out Try.underlying67 rfl (by kernel_rfl)) rfl ?_
  exact ⟨a, none, 0, 0, rfl, Below.trans (HX1.out.setCell (p := ⟨w.heap.size, 0, none⟩) (Nat.le_of_lt HGL.out) _) (HL6.out.mono (Nat.le_of_lt HGL.out)), fun h => absurd h HE.out⟩
set_option maxHeartbeats 1600000 in
theorem pFrame_short (s : List UInt8) (many g : Nat) (w : World) (h : PRd g w s) (hs : s.length ≤ 281474976710656) (hm : many ≤ 64) (a k e0 : Nat) (hrd : Vary.rd s = (a, k, e0)) (hk : k ≤ s.length) (ha : a < 18446744073709551616) (he : e0 = 0) (h2 : (s.drop k).length < 2) :
    Calls Try.prog 71 #[.pointer (some ⟨g, 0, none⟩), .int .i64 many] w (PFr g many s w) := by
  have HGL := hid (show g < w.heap.size from Blk.lt h)
  have HP0 := hid (show PRd g (w.alloc (.cells #[.int .u64 0, .slice none 0 0] 67)) s from Blk.alloc h _)
  have HB0 := hid (Blk.new w 67 #[.int .u64 0, .slice none 0 0])
  have HX0 := hid ((Below.refl g w).alloc (Nat.le_of_lt (Blk.lt h)) (.cells #[.int .u64 0, .slice none 0 0] 67))
  have HNE := hid (show w.heap.size ≠ g from (Nat.ne_of_lt (Blk.lt h)).symm)
  have HNU := hid (fun (wx : World) (h : PRd g wx s) => pNumber_any s g wx h hs a k e0 hrd hk)
  subst he
  obtain ⟨t, ht⟩ : ∃ t, t = s.drop k := ⟨_, rfl⟩
  have HT := hid ht
  have htl : t.length ≤ 281474976710656 := by rw [ht, List.length_drop]; omega
  have hmI : (many : Int) ≤ 64 := by omega
  have haI : (a : Int) ≤ 18446744073709551615 := by omega
  unfold PFr
  rw [Pat.fr_ok hrd, ← ht]
  rw [← ht] at h2
  rw [Pat.fr1_short h2]
  have HSH := hid h2
  clear h hs hm hrd hk ha htl ht h2
  go_enter Try.func71, Try.ntmps71
  go_wp2_with fail
  refine Calls.mono (HNU.out _ HP0.out) ?_
  rintro e w1 ⟨rfl, hst, hb⟩
  have hB1 := HB0.out.but hb HNE.out
  have HB1 := hid hB1
  have HST1 := hid hst
  have HX1 := hid (Below.trans HX0.out (hb.below (Nat.le_refl g) (Nat.le_trans (Nat.le_of_lt HGL.out) HX0.out.size)))
  have HS1 := hid (Nat.lt_of_lt_of_le (show w.heap.size < (w.alloc (.cells #[.int .u64 0, .slice none 0 0] 67)).heap.size by simp) hb.size)
  have hc0 := hB1.cell 0
  have hc1 := hB1.cell 1
  have hf0 := hB1.frozen 0
  clear hst hb hB1
  go_wp2_with fail
  have HB2 := hid ((HB1.out.set 0 (.int .u64 (a : Int))).cast (show _ = #[.int .u64 (a : Int), .slice none 0 0] from rfl))
  have HP2 := hid (show PRd g (w1.setCell ⟨w.heap.size, 0, none⟩ (.int .u64 (a : Int))) t by have := HST1.out; unfold PRd at this ⊢; rw [← HT.out] at this; exact this.far (p := ⟨w.heap.size, 0, none⟩) HNE.out.symm _)
  have HX2 := hid (HX1.out.setCell (p := ⟨w.heap.size, 0, none⟩) (Nat.le_of_lt HGL.out) (.int .u64 (a : Int)))
  refine Calls.mono (pBytes_any t 2 g _ HP2.out (by decide)) ?_
  rintro e w2 (⟨_, rfl, hst, hb⟩ | ⟨h1, _⟩)
  rotate_left
  · exact absurd h1 (by have := HSH.out; omega)
  have hB3 := HB2.out.but hb HNE.out
  have HB3 := hid hB3
  have HX3 := hid (Below.trans HX2.out (hb.below (Nat.le_refl g) (Nat.le_trans (Nat.le_of_lt HGL.out) HX2.out.size)))
  have hc0 := hB3.cell 0
  have hc1 := hB3.cell 1
  clear hst hb hB3
  go_wp2_with (with_reducible (show wpList _ _ _ (⟨none, .store 67 (.tmp 4) (.tmp 27), _, _, _, _⟩ :: _) _ _); go_loud (refine wpList_store_blk rfl 67 (.tmp 4) (.tmp 27) rfl w.heap.size #[.int .u64 (a : Int), .slice none 0 0] rfl rfl 67 _ HB3.out (by kernel_rfl) rfl (by simp [Value.oneCell']) w.heap.size (Nat.le_refl _) ?_; intro w6 hB6 hF6 hL6; have HB6 := hid hB6; have HF6 := hid hF6; have HL6 := hid hL6; clear hB6 hF6 hL6))
  refine bodyPost_ret (results_blk2 rfl _ _ w.heap.size 67 _ _ rfl HB6.out Try.underlying67 rfl (by kernel_rfl)) rfl ?_
  exact ⟨a, none, 0, 0, rfl, Below.trans HX3.out (HL6.out.mono (Nat.le_of_lt HGL.out)), fun h => by cases h⟩
set_option maxHeartbeats 1600000 in
theorem pFrame_wide (s : List UInt8) (many g : Nat) (w : World) (h : PRd g w s) (hs : s.length ≤ 281474976710656) (hm : many ≤ 64) (a k e0 : Nat) (hrd : Vary.rd s = (a, k, e0)) (hk : k ≤ s.length) (ha : a < 18446744073709551616) (he : e0 = 0) (c0 d0 : UInt8) (u0 : List UInt8) (hcd : s.drop k = c0 :: d0 :: u0) (h64 : 64 < c0.toNat) :
    Calls Try.prog 71 #[.pointer (some ⟨g, 0, none⟩), .int .i64 many] w (PFr g many s w) := by
  have HGL := hid (show g < w.heap.size from Blk.lt h)
  have HP0 := hid (show PRd g (w.alloc (.cells #[.int .u64 0, .slice none 0 0] 67)) s from Blk.alloc h _)
  have HB0 := hid (Blk.new w 67 #[.int .u64 0, .slice none 0 0])
  have HX0 := hid ((Below.refl g w).alloc (Nat.le_of_lt (Blk.lt h)) (.cells #[.int .u64 0, .slice none 0 0] 67))
  have HNE := hid (show w.heap.size ≠ g from (Nat.ne_of_lt (Blk.lt h)).symm)
  have HNU := hid (fun (wx : World) (h : PRd g wx s) => pNumber_any s g wx h hs a k e0 hrd hk)
  subst he
  obtain ⟨t, ht⟩ : ∃ t, t = s.drop k := ⟨_, rfl⟩
  have HT := hid ht
  have htl : t.length ≤ 281474976710656 := by rw [ht, List.length_drop]; omega
  have hmI : (many : Int) ≤ 64 := by omega
  have haI : (a : Int) ≤ 18446744073709551615 := by omega
  unfold PFr
  rw [Pat.fr_ok hrd, ← ht]
  obtain ⟨c, d, u, rfl⟩ : ∃ c d u, t = c :: d :: u := ⟨c0, d0, u0, by rw [ht, hcd]⟩
  rw [Pat.fr1_cons]
  have hul : u.length ≤ 281474976710656 := by rw [List.length_cons, List.length_cons] at htl; omega
  have HSH2 := hid (show 2 ≤ (c :: d :: u).length by simp)
  have hI0 := fun wx : World => run_ix0 (P := Try.prog) (w := wx) Try.underlying9 ⟨[c, d].toArray⟩ .i64 c [d] rfl
  have hI1 := fun wx : World => run_ix (P := Try.prog) (w := wx) Try.underlying9 ⟨[c, d].toArray⟩ .i64 1 d rfl
  obtain ⟨XC, hXC⟩ : ∃ S : ByteArray, S = ⟨[c, d].toArray⟩ := ⟨_, rfl⟩
  rw [← hXC] at hI0 hI1
  have HXC := hid hXC
  have hcI : (c.toNat : Int) ≤ 255 := by have := c.toNat_lt; omega
  have hdI : (d.toNat : Int) ≤ 255 := by have := d.toNat_lt; omega
  have i11 : ((1 : Nat) : Int) = 1 := rfl
  rw [i11] at hI1
  obtain ⟨rfl, rfl, rfl⟩ : c = c0 ∧ d = d0 ∧ u = u0 := by rw [hcd] at ht; injection ht with h1 h2; injection h2 with h2 h3; exact ⟨h1, h2, h3⟩
  rw [Pat.fr2_wide h64]
  have hcw : 64 < (c.toNat : Int) := by omega
  clear h hs hm hrd hk ha htl ht hcd hXC h64 hul
  generalize c.toNat = wd at *
  generalize d.toNat = q at *
  go_enter Try.func71, Try.ntmps71
  go_wp2_with fail
  refine Calls.mono (HNU.out _ HP0.out) ?_
  rintro e w1 ⟨rfl, hst, hb⟩
  have hB1 := HB0.out.but hb HNE.out
  have HB1 := hid hB1
  have HST1 := hid hst
  have HX1 := hid (Below.trans HX0.out (hb.below (Nat.le_refl g) (Nat.le_trans (Nat.le_of_lt HGL.out) HX0.out.size)))
  have HS1 := hid (Nat.lt_of_lt_of_le (show w.heap.size < (w.alloc (.cells #[.int .u64 0, .slice none 0 0] 67)).heap.size by simp) hb.size)
  have hc0 := hB1.cell 0
  have hc1 := hB1.cell 1
  have hf0 := hB1.frozen 0
  clear hst hb hB1
  go_wp2_with fail
  have HB2 := hid ((HB1.out.set 0 (.int .u64 (a : Int))).cast (show _ = #[.int .u64 (a : Int), .slice none 0 0] from rfl))
  have HP2 := hid (show PRd g (w1.setCell ⟨w.heap.size, 0, none⟩ (.int .u64 (a : Int))) (c :: d :: u) by have := HST1.out; unfold PRd at this ⊢; rw [← HT.out] at this; exact this.far (p := ⟨w.heap.size, 0, none⟩) HNE.out.symm _)
  have HX2 := hid (HX1.out.setCell (p := ⟨w.heap.size, 0, none⟩) (Nat.le_of_lt HGL.out) (.int .u64 (a : Int)))
  refine Calls.mono (pBytes_any (c :: d :: u) 2 g _ HP2.out (by decide)) ?_
  rw [show (⟨((c :: d :: u).take 2).toArray⟩ : ByteArray) = XC from HXC.out.symm, show (c :: d :: u).drop 2 = u from rfl]
  rintro e w2 (⟨h1, _⟩ | ⟨_, rfl, hst, hb⟩)
  · exact absurd h1 (by have := HSH2.out; omega)
  have hB3 := HB2.out.but hb HNE.out
  have HB3 := hid hB3
  have HX3 := hid (Below.trans HX2.out (hb.below (Nat.le_refl g) (Nat.le_trans (Nat.le_of_lt HGL.out) HX2.out.size)))
  have HST3 := hid hst
  have HS3 := hid (show w.heap.size < w2.heap.size from hB3.lt)
  have hc0 := hB3.cell 0
  have hc1 := hB3.cell 1
  have hf1 := hB3.frozen 1
  clear hst hb hB3
  go_wp2_with (with_reducible (show wpList _ _ _ (⟨none, .store 67 (.tmp 4) (.tmp 34), _, _, _, _⟩ :: _) _ _); go_loud (refine wpList_store_blk rfl 67 (.tmp 4) (.tmp 34) rfl w.heap.size #[.int .u64 (a : Int), .slice none 0 0] rfl rfl 67 _ HB3.out (by kernel_rfl) rfl (by simp [Value.oneCell']) w.heap.size (Nat.le_refl _) ?_; intro w6 hB6 hF6 hL6; have HB6 := hid hB6; have HF6 := hid hF6; have HL6 := hid hL6; clear hB6 hF6 hL6))
  refine bodyPost_ret (results_blk2 rfl _ _ w.heap.size 67 _ _ rfl HB6.out Try.underlying67 rfl (by kernel_rfl)) rfl ?_
  exact ⟨a, none, 0, 0, rfl, Below.trans HX3.out (HL6.out.mono (Nat.le_of_lt HGL.out)), fun h => by cases h⟩
set_option maxHeartbeats 1600000 in
theorem pFrame_short2 (s : List UInt8) (many g : Nat) (w : World) (h : PRd g w s) (hs : s.length ≤ 281474976710656) (hm : many ≤ 64) (a k e0 : Nat) (hrd : Vary.rd s = (a, k, e0)) (hk : k ≤ s.length) (ha : a < 18446744073709551616) (he : e0 = 0) (c0 d0 : UInt8) (u0 : List UInt8) (hcd : s.drop k = c0 :: d0 :: u0) (h64 : ¬ 64 < c0.toNat) (h5 : u0.length < Bits.size many c0.toNat) :
    Calls Try.prog 71 #[.pointer (some ⟨g, 0, none⟩), .int .i64 many] w (PFr g many s w) := by
  have HGL := hid (show g < w.heap.size from Blk.lt h)
  have HP0 := hid (show PRd g (w.alloc (.cells #[.int .u64 0, .slice none 0 0] 67)) s from Blk.alloc h _)
  have HB0 := hid (Blk.new w 67 #[.int .u64 0, .slice none 0 0])
  have HX0 := hid ((Below.refl g w).alloc (Nat.le_of_lt (Blk.lt h)) (.cells #[.int .u64 0, .slice none 0 0] 67))
  have HNE := hid (show w.heap.size ≠ g from (Nat.ne_of_lt (Blk.lt h)).symm)
  have HNU := hid (fun (wx : World) (h : PRd g wx s) => pNumber_any s g wx h hs a k e0 hrd hk)
  subst he
  obtain ⟨t, ht⟩ : ∃ t, t = s.drop k := ⟨_, rfl⟩
  have HT := hid ht
  have htl : t.length ≤ 281474976710656 := by rw [ht, List.length_drop]; omega
  have hmI : (many : Int) ≤ 64 := by omega
  have haI : (a : Int) ≤ 18446744073709551615 := by omega
  unfold PFr
  rw [Pat.fr_ok hrd, ← ht]
  obtain ⟨c, d, u, rfl⟩ : ∃ c d u, t = c :: d :: u := ⟨c0, d0, u0, by rw [ht, hcd]⟩
  rw [Pat.fr1_cons]
  have hul : u.length ≤ 281474976710656 := by rw [List.length_cons, List.length_cons] at htl; omega
  have HSH2 := hid (show 2 ≤ (c :: d :: u).length by simp)
  have hI0 := fun wx : World => run_ix0 (P := Try.prog) (w := wx) Try.underlying9 ⟨[c, d].toArray⟩ .i64 c [d] rfl
  have hI1 := fun wx : World => run_ix (P := Try.prog) (w := wx) Try.underlying9 ⟨[c, d].toArray⟩ .i64 1 d rfl
  obtain ⟨XC, hXC⟩ : ∃ S : ByteArray, S = ⟨[c, d].toArray⟩ := ⟨_, rfl⟩
  rw [← hXC] at hI0 hI1
  have HXC := hid hXC
  have hcI : (c.toNat : Int) ≤ 255 := by have := c.toNat_lt; omega
  have hdI : (d.toNat : Int) ≤ 255 := by have := d.toNat_lt; omega
  have i11 : ((1 : Nat) : Int) = 1 := rfl
  rw [i11] at hI1
  obtain ⟨rfl, rfl, rfl⟩ : c = c0 ∧ d = d0 ∧ u = u0 := by rw [hcd] at ht; injection ht with h1 h2; injection h2 with h2 h3; exact ⟨h1, h2, h3⟩
  have hcw : (c.toNat : Int) ≤ 64 := by omega
  have hmul : (many : Int) * (c.toNat : Int) = ((many * c.toNat : Nat) : Int) := by simp
  have hmb : many * c.toNat ≤ 4096 := Nat.mul_le_mul hm (show c.toNat ≤ 64 by omega)
  have hsz : (((many * c.toNat : Nat) : Int) + 7) / 8 = (Bits.size many c.toNat : Nat) := by unfold Bits.size; omega
  have hszb : Bits.size many c.toNat ≤ 512 := by unfold Bits.size; omega
  have hmbI : ((many * c.toNat : Nat) : Int) ≤ 4096 := by omega
  have hszI : ((Bits.size many c.toNat : Nat) : Int) ≤ 512 := by omega
  have HSZ := hid hszb
  rw [Pat.fr2_short h64 h5]
  have HSH := hid h5
  clear h hs hm hrd hk ha htl ht hcd hXC h64 hul h5 hmb hszb
  generalize many * c.toNat = mw at *
  generalize Bits.size many c.toNat = sz at *
  generalize c.toNat = wd at *
  generalize d.toNat = q at *
  go_enter Try.func71, Try.ntmps71
  go_wp2_with fail
  refine Calls.mono (HNU.out _ HP0.out) ?_
  rintro e w1 ⟨rfl, hst, hb⟩
  have hB1 := HB0.out.but hb HNE.out
  have HB1 := hid hB1
  have HST1 := hid hst
  have HX1 := hid (Below.trans HX0.out (hb.below (Nat.le_refl g) (Nat.le_trans (Nat.le_of_lt HGL.out) HX0.out.size)))
  have HS1 := hid (Nat.lt_of_lt_of_le (show w.heap.size < (w.alloc (.cells #[.int .u64 0, .slice none 0 0] 67)).heap.size by simp) hb.size)
  have hc0 := hB1.cell 0
  have hc1 := hB1.cell 1
  have hf0 := hB1.frozen 0
  clear hst hb hB1
  go_wp2_with fail
  have HB2 := hid ((HB1.out.set 0 (.int .u64 (a : Int))).cast (show _ = #[.int .u64 (a : Int), .slice none 0 0] from rfl))
  have HP2 := hid (show PRd g (w1.setCell ⟨w.heap.size, 0, none⟩ (.int .u64 (a : Int))) (c :: d :: u) by have := HST1.out; unfold PRd at this ⊢; rw [← HT.out] at this; exact this.far (p := ⟨w.heap.size, 0, none⟩) HNE.out.symm _)
  have HX2 := hid (HX1.out.setCell (p := ⟨w.heap.size, 0, none⟩) (Nat.le_of_lt HGL.out) (.int .u64 (a : Int)))
  refine Calls.mono (pBytes_any (c :: d :: u) 2 g _ HP2.out (by decide)) ?_
  rw [show (⟨((c :: d :: u).take 2).toArray⟩ : ByteArray) = XC from HXC.out.symm, show (c :: d :: u).drop 2 = u from rfl]
  rintro e w2 (⟨h1, _⟩ | ⟨_, rfl, hst, hb⟩)
  · exact absurd h1 (by have := HSH2.out; omega)
  have hB3 := HB2.out.but hb HNE.out
  have HB3 := hid hB3
  have HX3 := hid (Below.trans HX2.out (hb.below (Nat.le_refl g) (Nat.le_trans (Nat.le_of_lt HGL.out) HX2.out.size)))
  have HST3 := hid hst
  have HS3 := hid (show w.heap.size < w2.heap.size from hB3.lt)
  have hc0 := hB3.cell 0
  have hc1 := hB3.cell 1
  have hf1 := hB3.frozen 1
  clear hst hb hB3
  go_wp2_with fail
  refine Calls.mono (pBytes_any u sz g _ HST3.out (by have := HSZ.out; omega)) ?_
  rintro e w3 (⟨_, rfl, hst, hb⟩ | ⟨h1, _⟩)
  rotate_left
  · exact absurd h1 (by have := HSH.out; omega)
  have hB4 := HB3.out.but hb HNE.out
  have HB4 := hid hB4
  have HX4 := hid (Below.trans HX3.out (hb.below (Nat.le_refl g) (Nat.le_trans (Nat.le_of_lt HGL.out) HX3.out.size)))
  have hc0 := hB4.cell 0
  have hc1 := hB4.cell 1
  clear hst hb hB4
  go_wp2_with (with_reducible (show wpList _ _ _ (⟨none, .store 67 (.tmp 4) (.tmp 47), _, _, _, _⟩ :: _) _ _); go_loud (refine wpList_store_blk rfl 67 (.tmp 4) (.tmp 47) rfl w.heap.size #[.int .u64 (a : Int), .slice none 0 0] rfl rfl 67 _ HB4.out (by kernel_rfl) rfl (by simp [Value.oneCell']) w.heap.size (Nat.le_refl _) ?_; intro w6 hB6 hF6 hL6; have HB6 := hid hB6; have HF6 := hid hF6; have HL6 := hid hL6; clear hB6 hF6 hL6))
  refine bodyPost_ret (results_blk2 rfl _ _ w.heap.size 67 _ _ rfl HB6.out Try.underlying67 rfl (by kernel_rfl)) rfl ?_
  exact ⟨a, none, 0, 0, rfl, Below.trans HX4.out (HL6.out.mono (Nat.le_of_lt HGL.out)), fun h => by cases h⟩
set_option maxHeartbeats 1600000 in
theorem pFrame_bad (s : List UInt8) (many g : Nat) (w : World) (h : PRd g w s) (hs : s.length ≤ 281474976710656) (hm : many ≤ 64) (a k e0 : Nat) (hrd : Vary.rd s = (a, k, e0)) (hk : k ≤ s.length) (ha : a < 18446744073709551616) (he : e0 = 0) (c0 d0 : UInt8) (u0 : List UInt8) (hcd : s.drop k = c0 :: d0 :: u0) (h64 : ¬ 64 < c0.toNat) (h5 : ¬ u0.length < Bits.size many c0.toNat) (h6 : Bits.chk (u0.take (Bits.size many c0.toNat)) many c0.toNat ≠ 0) :
    Calls Try.prog 71 #[.pointer (some ⟨g, 0, none⟩), .int .i64 many] w (PFr g many s w) := by
  have HGL := hid (show g < w.heap.size from Blk.lt h)
  have HP0 := hid (show PRd g (w.alloc (.cells #[.int .u64 0, .slice none 0 0] 67)) s from Blk.alloc h _)
  have HB0 := hid (Blk.new w 67 #[.int .u64 0, .slice none 0 0])
  have HX0 := hid ((Below.refl g w).alloc (Nat.le_of_lt (Blk.lt h)) (.cells #[.int .u64 0, .slice none 0 0] 67))
  have HNE := hid (show w.heap.size ≠ g from (Nat.ne_of_lt (Blk.lt h)).symm)
  have HNU := hid (fun (wx : World) (h : PRd g wx s) => pNumber_any s g wx h hs a k e0 hrd hk)
  subst he
  obtain ⟨t, ht⟩ : ∃ t, t = s.drop k := ⟨_, rfl⟩
  have HT := hid ht
  have htl : t.length ≤ 281474976710656 := by rw [ht, List.length_drop]; omega
  have hmI : (many : Int) ≤ 64 := by omega
  have haI : (a : Int) ≤ 18446744073709551615 := by omega
  unfold PFr
  rw [Pat.fr_ok hrd, ← ht]
  obtain ⟨c, d, u, rfl⟩ : ∃ c d u, t = c :: d :: u := ⟨c0, d0, u0, by rw [ht, hcd]⟩
  rw [Pat.fr1_cons]
  have hul : u.length ≤ 281474976710656 := by rw [List.length_cons, List.length_cons] at htl; omega
  have HSH2 := hid (show 2 ≤ (c :: d :: u).length by simp)
  have hI0 := fun wx : World => run_ix0 (P := Try.prog) (w := wx) Try.underlying9 ⟨[c, d].toArray⟩ .i64 c [d] rfl
  have hI1 := fun wx : World => run_ix (P := Try.prog) (w := wx) Try.underlying9 ⟨[c, d].toArray⟩ .i64 1 d rfl
  obtain ⟨XC, hXC⟩ : ∃ S : ByteArray, S = ⟨[c, d].toArray⟩ := ⟨_, rfl⟩
  rw [← hXC] at hI0 hI1
  have HXC := hid hXC
  have hcI : (c.toNat : Int) ≤ 255 := by have := c.toNat_lt; omega
  have hdI : (d.toNat : Int) ≤ 255 := by have := d.toNat_lt; omega
  have i11 : ((1 : Nat) : Int) = 1 := rfl
  rw [i11] at hI1
  obtain ⟨rfl, rfl, rfl⟩ : c = c0 ∧ d = d0 ∧ u = u0 := by rw [hcd] at ht; injection ht with h1 h2; injection h2 with h2 h3; exact ⟨h1, h2, h3⟩
  have hcw : (c.toNat : Int) ≤ 64 := by omega
  have hmul : (many : Int) * (c.toNat : Int) = ((many * c.toNat : Nat) : Int) := by simp
  have hmb : many * c.toNat ≤ 4096 := Nat.mul_le_mul hm (show c.toNat ≤ 64 by omega)
  have hsz : (((many * c.toNat : Nat) : Int) + 7) / 8 = (Bits.size many c.toNat : Nat) := by unfold Bits.size; omega
  have hszb : Bits.size many c.toNat ≤ 512 := by unfold Bits.size; omega
  have hmbI : ((many * c.toNat : Nat) : Int) ≤ 4096 := by omega
  have hszI : ((Bits.size many c.toNat : Nat) : Int) ≤ 512 := by omega
  have HSZ := hid hszb
  have HU := hid (fun wx => unpack_own ⟨(u.take (Bits.size many c.toNat)).toArray⟩ (many : Int) (c.toNat : Int) wx)
  rw [show (⟨(u.take (Bits.size many c.toNat)).toArray⟩ : ByteArray).data.toList = u.take (Bits.size many c.toNat) by simp] at HU
  have HSH3 := hid (show Bits.size many c.toNat ≤ u.length by omega)
  rw [Pat.fr2_bad h64 h5 h6]
  have hE := Bits.chk_cases (u.take (Bits.size many c.toNat)) many c.toNat
  generalize Bits.chk (u.take (Bits.size many c.toNat)) many c.toNat = E at *
  have hEI : (E : Int) ≤ 3 := by omega
  have HE := hid h6
  have h7 : ((E : Int) != 0) = true := by rw [bne_iff_ne]; omega
  have h8 : ((E : Int) == 0) = false := by rw [beq_eq_false_iff_ne]; omega
  generalize Bits.up (u.take (Bits.size many c.toNat)) many c.toNat = U at *
  clear h hs hm hrd hk ha htl ht hcd hXC h64 hul h5 hmb hszb h6 hE
  generalize many * c.toNat = mw at *
  generalize Bits.size many c.toNat = sz at *
  generalize c.toNat = wd at *
  generalize d.toNat = q at *
  go_enter Try.func71, Try.ntmps71
  go_wp2_with fail
  refine Calls.mono (HNU.out _ HP0.out) ?_
  rintro e w1 ⟨rfl, hst, hb⟩
  have hB1 := HB0.out.but hb HNE.out
  have HB1 := hid hB1
  have HST1 := hid hst
  have HX1 := hid (Below.trans HX0.out (hb.below (Nat.le_refl g) (Nat.le_trans (Nat.le_of_lt HGL.out) HX0.out.size)))
  have HS1 := hid (Nat.lt_of_lt_of_le (show w.heap.size < (w.alloc (.cells #[.int .u64 0, .slice none 0 0] 67)).heap.size by simp) hb.size)
  have hc0 := hB1.cell 0
  have hc1 := hB1.cell 1
  have hf0 := hB1.frozen 0
  clear hst hb hB1
  go_wp2_with fail
  have HB2 := hid ((HB1.out.set 0 (.int .u64 (a : Int))).cast (show _ = #[.int .u64 (a : Int), .slice none 0 0] from rfl))
  have HP2 := hid (show PRd g (w1.setCell ⟨w.heap.size, 0, none⟩ (.int .u64 (a : Int))) (c :: d :: u) by have := HST1.out; unfold PRd at this ⊢; rw [← HT.out] at this; exact this.far (p := ⟨w.heap.size, 0, none⟩) HNE.out.symm _)
  have HX2 := hid (HX1.out.setCell (p := ⟨w.heap.size, 0, none⟩) (Nat.le_of_lt HGL.out) (.int .u64 (a : Int)))
  refine Calls.mono (pBytes_any (c :: d :: u) 2 g _ HP2.out (by decide)) ?_
  rw [show (⟨((c :: d :: u).take 2).toArray⟩ : ByteArray) = XC from HXC.out.symm, show (c :: d :: u).drop 2 = u from rfl]
  rintro e w2 (⟨h1, _⟩ | ⟨_, rfl, hst, hb⟩)
  · exact absurd h1 (by have := HSH2.out; omega)
  have hB3 := HB2.out.but hb HNE.out
  have HB3 := hid hB3
  have HX3 := hid (Below.trans HX2.out (hb.below (Nat.le_refl g) (Nat.le_trans (Nat.le_of_lt HGL.out) HX2.out.size)))
  have HST3 := hid hst
  have HS3 := hid (show w.heap.size < w2.heap.size from hB3.lt)
  have hc0 := hB3.cell 0
  have hc1 := hB3.cell 1
  have hf1 := hB3.frozen 1
  clear hst hb hB3
  go_wp2_with fail
  refine Calls.mono (pBytes_any u sz g _ HST3.out (by have := HSZ.out; omega)) ?_
  rintro e w3 (⟨h1, _⟩ | ⟨_, rfl, hst, hb⟩)
  · exact absurd h1 (by have := HSH3.out; omega)
  have hB4 := HB3.out.but hb HNE.out
  have HB4 := hid hB4
  have HX4 := hid (Below.trans HX3.out (hb.below (Nat.le_refl g) (Nat.le_trans (Nat.le_of_lt HGL.out) HX3.out.size)))
  have HST4 := hid hst
  have HS4 := hid (show w.heap.size < w3.heap.size from hB4.lt)
  have hc0 := hB4.cell 0
  have hc1 := hB4.cell 1
  have hf1 := hB4.frozen 1
  clear hst hb hB4
  go_wp2_with fail
  refine Calls.mono (HU.out _) ?_
  rintro e w4 ⟨v, rfl, hown, hx⟩
  have hB5 := HB4.out.keep hx
  have HB5 := hid hB5
  have HST5 := hid (show PRd g w4 (u.drop sz) from Blk.keep HST4.out hx)
  have HX5 := hid (HX4.out.trans (hx.mono (Nat.le_trans (Nat.le_of_lt HGL.out) HX4.out.size)))
  have HOW := hid hown
  have hc0 := hB5.cell 0
  have hc1 := hB5.cell 1
  have hf1 := hB5.frozen 1
  clear hown hx hB5
  obtain ⟨V, cv, rfl, _⟩ := Rd.owned HOW.out
  go_wp2_with (with_reducible (show wpList _ _ _ (⟨none, .store 67 (.tmp 4) (.tmp 59), _, _, _, _⟩ :: _) _ _); go_loud (refine wpList_store_blk rfl 67 (.tmp 4) (.tmp 59) rfl w.heap.size #[.int .u64 (a : Int), .slice V U.length cv] rfl rfl 67 _ ((HB5.out.set 1 _).cast rfl) (by kernel_rfl) rfl (by simp [Value.oneCell']) w.heap.size (Nat.le_refl _) ?_; intro w6 hB6 hF6 hL6; have HB6 := hid hB6; have HF6 := hid hF6; have HL6 := hid hL6; clear hB6 hF6 hL6))
  refine bodyPost_ret (results_blk2 rfl _ _ w.heap.size 67 _ _ rfl HB6.out Try.underlying67 rfl (by kernel_rfl)) rfl ?_
  exact ⟨a, _, _, _, rfl, Below.trans (HX5.out.setCell (p := ⟨w.heap.size, 1, none⟩) (Nat.le_of_lt HGL.out) _) (HL6.out.mono (Nat.le_of_lt HGL.out)), fun h => absurd h HE.out⟩
set_option maxRecDepth 100000 in
set_option maxHeartbeats 3200000 in
theorem pFrame_loop (s : List UInt8) (many g : Nat) (w : World) (h : PRd g w s) (hs : s.length ≤ 281474976710656) (hm : many ≤ 64) (a k e0 : Nat) (hrd : Vary.rd s = (a, k, e0)) (hk : k ≤ s.length) (ha : a < 18446744073709551616) (he : e0 = 0) (c0 d0 : UInt8) (u0 : List UInt8) (hcd : s.drop k = c0 :: d0 :: u0) (h64 : ¬ 64 < c0.toNat) (h5 : ¬ u0.length < Bits.size many c0.toNat) (h6 : Bits.chk (u0.take (Bits.size many c0.toNat)) many c0.toNat = 0) :
    Calls Try.prog 71 #[.pointer (some ⟨g, 0, none⟩), .int .i64 many] w (PFr g many s w) := by
  have HGL := hid (show g < w.heap.size from Blk.lt h)
  have HP0 := hid (show PRd g (w.alloc (.cells #[.int .u64 0, .slice none 0 0] 67)) s from Blk.alloc h _)
  have HB0 := hid (Blk.new w 67 #[.int .u64 0, .slice none 0 0])
  have HX0 := hid ((Below.refl g w).alloc (Nat.le_of_lt (Blk.lt h)) (.cells #[.int .u64 0, .slice none 0 0] 67))
  have HNE := hid (show w.heap.size ≠ g from (Nat.ne_of_lt (Blk.lt h)).symm)
  have HNU := hid (fun (wx : World) (h : PRd g wx s) => pNumber_any s g wx h hs a k e0 hrd hk)
  subst he
  obtain ⟨t, ht⟩ : ∃ t, t = s.drop k := ⟨_, rfl⟩
  have HT := hid ht
  have htl : t.length ≤ 281474976710656 := by rw [ht, List.length_drop]; omega
  have hmI : (many : Int) ≤ 64 := by omega
  have haI : (a : Int) ≤ 18446744073709551615 := by omega
  unfold PFr
  rw [Pat.fr_ok hrd, ← ht]
  obtain ⟨c, d, u, rfl⟩ : ∃ c d u, t = c :: d :: u := ⟨c0, d0, u0, by rw [ht, hcd]⟩
  rw [Pat.fr1_cons]
  have hul : u.length ≤ 281474976710656 := by rw [List.length_cons, List.length_cons] at htl; omega
  have HSH2 := hid (show 2 ≤ (c :: d :: u).length by simp)
  have hI0 := fun wx : World => run_ix0 (P := Try.prog) (w := wx) Try.underlying9 ⟨[c, d].toArray⟩ .i64 c [d] rfl
  have hI1 := fun wx : World => run_ix (P := Try.prog) (w := wx) Try.underlying9 ⟨[c, d].toArray⟩ .i64 1 d rfl
  obtain ⟨XC, hXC⟩ : ∃ S : ByteArray, S = ⟨[c, d].toArray⟩ := ⟨_, rfl⟩
  rw [← hXC] at hI0 hI1
  have HXC := hid hXC
  have hcI : (c.toNat : Int) ≤ 255 := by have := c.toNat_lt; omega
  have hdI : (d.toNat : Int) ≤ 255 := by have := d.toNat_lt; omega
  have i11 : ((1 : Nat) : Int) = 1 := rfl
  rw [i11] at hI1
  obtain ⟨rfl, rfl, rfl⟩ : c = c0 ∧ d = d0 ∧ u = u0 := by rw [hcd] at ht; injection ht with h1 h2; injection h2 with h2 h3; exact ⟨h1, h2, h3⟩
  have hcw : (c.toNat : Int) ≤ 64 := by omega
  have hmul : (many : Int) * (c.toNat : Int) = ((many * c.toNat : Nat) : Int) := by simp
  have hmb : many * c.toNat ≤ 4096 := Nat.mul_le_mul hm (show c.toNat ≤ 64 by omega)
  have hsz : (((many * c.toNat : Nat) : Int) + 7) / 8 = (Bits.size many c.toNat : Nat) := by unfold Bits.size; omega
  have hszb : Bits.size many c.toNat ≤ 512 := by unfold Bits.size; omega
  have hmbI : ((many * c.toNat : Nat) : Int) ≤ 4096 := by omega
  have hszI : ((Bits.size many c.toNat : Nat) : Int) ≤ 512 := by omega
  have HSZ := hid hszb
  have HU := hid (fun wx => unpack_own ⟨(u.take (Bits.size many c.toNat)).toArray⟩ (many : Int) (c.toNat : Int) wx)
  rw [show (⟨(u.take (Bits.size many c.toNat)).toArray⟩ : ByteArray).data.toList = u.take (Bits.size many c.toNat) by simp] at HU
  have HSH3 := hid (show Bits.size many c.toNat ≤ u.length by omega)
  rw [Pat.fr2_ok h64 h5 h6]
  have HUP := hid (Bits.up_ok _ _ _ h6)
  simp only [Int.toNat_natCast] at HUP
  rw [h6, HUP.out] at HU
  have HUL := hid (Bits.unp_len (u.take (Bits.size many c.toNat)) many c.toNat)
  generalize Bits.unp (u.take (Bits.size many c.toNat)) many c.toNat = U at *
  unfold NumsOwn at HU
  rw [HUL.out] at HU
  have HUD := hid hul
  have HM := hid hm
  clear h hs hm hrd hk ha htl ht hcd hXC h64 hul h5 hmb hszb h6 HUP
  generalize many * c.toNat = mw at *
  generalize Bits.size many c.toNat = sz at *
  generalize c.toNat = wd at *
  generalize d.toNat = q at *
  go_enter Try.func71, Try.ntmps71
  go_wp2_with fail
  refine Calls.mono (HNU.out _ HP0.out) ?_
  rintro e w1 ⟨rfl, hst, hb⟩
  have hB1 := HB0.out.but hb HNE.out
  have HB1 := hid hB1
  have HST1 := hid hst
  have HX1 := hid (Below.trans HX0.out (hb.below (Nat.le_refl g) (Nat.le_trans (Nat.le_of_lt HGL.out) HX0.out.size)))
  have HS1 := hid (Nat.lt_of_lt_of_le (show w.heap.size < (w.alloc (.cells #[.int .u64 0, .slice none 0 0] 67)).heap.size by simp) hb.size)
  have hc0 := hB1.cell 0
  have hc1 := hB1.cell 1
  have hf0 := hB1.frozen 0
  clear hst hb hB1
  go_wp2_with fail
  have HB2 := hid ((HB1.out.set 0 (.int .u64 (a : Int))).cast (show _ = #[.int .u64 (a : Int), .slice none 0 0] from rfl))
  have HP2 := hid (show PRd g (w1.setCell ⟨w.heap.size, 0, none⟩ (.int .u64 (a : Int))) (c :: d :: u) by have := HST1.out; unfold PRd at this ⊢; rw [← HT.out] at this; exact this.far (p := ⟨w.heap.size, 0, none⟩) HNE.out.symm _)
  have HX2 := hid (HX1.out.setCell (p := ⟨w.heap.size, 0, none⟩) (Nat.le_of_lt HGL.out) (.int .u64 (a : Int)))
  refine Calls.mono (pBytes_any (c :: d :: u) 2 g _ HP2.out (by decide)) ?_
  rw [show (⟨((c :: d :: u).take 2).toArray⟩ : ByteArray) = XC from HXC.out.symm, show (c :: d :: u).drop 2 = u from rfl]
  rintro e w2 (⟨h1, _⟩ | ⟨_, rfl, hst, hb⟩)
  · exact absurd h1 (by have := HSH2.out; omega)
  have hB3 := HB2.out.but hb HNE.out
  have HB3 := hid hB3
  have HX3 := hid (Below.trans HX2.out (hb.below (Nat.le_refl g) (Nat.le_trans (Nat.le_of_lt HGL.out) HX2.out.size)))
  have HST3 := hid hst
  have HS3 := hid (show w.heap.size < w2.heap.size from hB3.lt)
  have hc0 := hB3.cell 0
  have hc1 := hB3.cell 1
  have hf1 := hB3.frozen 1
  clear hst hb hB3
  go_wp2_with fail
  refine Calls.mono (pBytes_any u sz g _ HST3.out (by have := HSZ.out; omega)) ?_
  rintro e w3 (⟨h1, _⟩ | ⟨_, rfl, hst, hb⟩)
  · exact absurd h1 (by have := HSH3.out; omega)
  have hB4 := HB3.out.but hb HNE.out
  have HB4 := hid hB4
  have HX4 := hid (Below.trans HX3.out (hb.below (Nat.le_refl g) (Nat.le_trans (Nat.le_of_lt HGL.out) HX3.out.size)))
  have HST4 := hid hst
  have HS4 := hid (show w.heap.size < w3.heap.size from hB4.lt)
  have hc0 := hB4.cell 0
  have hc1 := hB4.cell 1
  have hf1 := hB4.frozen 1
  clear hst hb hB4
  go_wp2_with fail
  refine Calls.mono (HU.out _) ?_
  rintro e w4 ⟨v, rfl, hown, hx⟩
  have hB5 := HB4.out.keep hx
  have HB5 := hid hB5
  have HST5 := hid (show PRd g w4 (u.drop sz) from Blk.keep HST4.out hx)
  have HX5 := hid (HX4.out.trans (hx.mono (Nat.le_trans (Nat.le_of_lt HGL.out) HX4.out.size)))
  have HOW := hid hown
  have hc0 := hB5.cell 0
  have hc1 := hB5.cell 1
  have hf1 := hB5.frozen 1
  clear hown hx hB5
  obtain ⟨V, cv, rfl, _⟩ := Rd.owned HOW.out
  have HOW2 := hid (own_lower HOW.out (show w.heap.size + 1 ≤ w3.heap.size from HS4.out))
  go_wp2
  go_loopw [5, 9, 63] (fun e9 l9 cq wr => ∃ (j : Nat) (last : Int) (M : List Nat) (x : List UInt8), j ≤ q ∧ cq = .int .u8 j ∧ l9 = .int .i64 last ∧ e9 = .int .i64 0 ∧ -1 ≤ last ∧ last ≤ 255 ∧ Hid (Pat.onS wd q U (-1) (u.drop sz) = Pat.onS wd (q - j) M last x) ∧ Hid (M.length = many) ∧ Hid (x.length ≤ 281474976710656) ∧ Hid (PRd g wr x) ∧ Blk wr w.heap.size 67 #[.int .u64 (a : Int), .slice V many cv] ∧ Hid (wr.ownsRow (w.heap.size + 1) 33 1 (.slice V many cv) many (u64s M)) ∧ Hid (Below g w wr)) (fun _ _ cq _ => q - (intOf cq).toNat)
  case atStart => exact ⟨0, -1, U, u.drop sz, Nat.zero_le _, rfl, rfl, rfl, by omega, by omega, hid rfl, HUL, hid (by have := HUD.out; rw [List.length_drop]; omega), hid (Blk.far HST5.out (p := ⟨w.heap.size, 1, none⟩) HNE.out.symm _), (HB5.out.set 1 _).cast rfl, hid (own_but HOW2.out ((but_refl _ _).put ⟨w.heap.size, 1, none⟩ (.inl rfl) _) (Nat.lt_succ_self _)), hid (HX5.out.setCell (p := ⟨w.heap.size, 1, none⟩) (Nat.le_of_lt HGL.out) _)⟩
  case round =>
    obtain ⟨j, last, M, x, hj, rfl, rfl, rfl, hl0, hl1, HON, HML, HXL, HPX, B, HO, HX⟩ := hrel
    have HB := hid B
    have hc0 := B.cell 0
    have hc1 := B.cell 1
    have hqI : (q : Int) ≤ 255 := hdI
    clear B
    by_cases hlt : j < q
    · have hjI : (j : Int) < (q : Int) := by omega
      obtain ⟨r, hr⟩ : ∃ r, q - j = r + 1 := ⟨q - j - 1, by omega⟩
      have HON2 := hid (show Pat.onS wd (r + 1) M last x = _ from rfl)
      rw [hr] at HON
      have HR := hid (show q - (j + 1) = r by omega)
      have HVB := hid (fun b (e : (Value.slice V many cv).ownBlock = some b) => (HO.out.lt b e).1)
      have HC1 := hid (by have := pOne_any M last x g (w.heap.size + 1) wd (.slice V many cv) wr HPX.out (Nat.lt_succ_of_lt HGL.out) (by rw [HML.out]; exact HO.out) (by rw [HML.out]; exact HM.out) HXL.out; exact this)
      have HXX := hid (Pat.onE_bd wd M last x)
      have HS := hid (Pat.onS_succ wd r M last x)
      have HEL := hid (Pat.onE_len (w := wd) (M := M) (last := last) (s := x))
      obtain ⟨⟨E, p, M2, x2⟩, hEE⟩ : ∃ y, Pat.onE wd M last x = y := ⟨_, rfl⟩
      unfold POne at HC1
      rw [hEE] at HC1 HXX HS HEL
      simp only at HC1 HXX HS HEL
      have hEb : (E : Int) ≤ 255 := by have := HXX.out; omega
      have hpb : (p : Int) ≤ 255 := by have := HXX.out; omega
      clear hr hEE hlt HON2
      by_cases hE0 : E = 0
      · subst hE0
        go_wp2_with fail
        refine Calls.mono HC1.out ?_
        rintro e w7 ⟨rfl, hb2, hok⟩
        obtain ⟨hp2, ho2⟩ := hok trivial
        have HB7 := hid (HB.out.but2 hb2 HNE.out (fun e => by have := HVB.out _ e; omega))
        have HP7 := hid hp2
        have HO7 := hid ho2
        have HX7 := hid (HX.out.trans (hb2.below (Nat.le_refl g) (Nat.le_trans (Nat.le_of_lt HGL.out) HX.out.size) (fun b e => by have := HVB.out b e; have := HGL.out; omega)))
        clear hb2 hp2 ho2 hok
        go_wp2
        go_roundw
        case rel => exact ⟨j + 1, p, M2, x2, by omega, by go_num, rfl, rfl, by omega, by omega, hid (by rw [HON.out, HS.out, HR.out]; rfl), hid (by rw [HEL.out, HML.out]), hid (by have := HXX.out; have := HXL.out; omega), HP7, HB7.out, hid (by have := HO7.out; rw [HML.out] at this; exact this), HX7⟩
        case measure => simp [intOf]; omega
      · have h7 : ((E : Int) != 0) = true := by rw [bne_iff_ne]; omega
        have h8 : ((E : Int) == 0) = false := by rw [beq_eq_false_iff_ne]; omega
        have HE0 := hid hE0
        have HFR := hid (show Pat.fr3 a wd q U (u.drop sz) = (E, 0, []) by
          have h1 : (Pat.onS wd q U (-1) (u.drop sz)).1 = E := by rw [HON.out, HS.out, if_pos hE0]
          rw [Pat.fr3_err (by rw [h1]; exact hE0), h1])
        clear hE0
        go_wp2_with fail
        refine Calls.mono HC1.out ?_
        rintro e w7 ⟨rfl, hb2, _⟩
        have hB7 := HB.out.but2 hb2 HNE.out (fun e => by have := HVB.out _ e; omega)
        have HB7 := hid hB7
        have HX7 := hid (HX.out.trans (hb2.below (Nat.le_refl g) (Nat.le_trans (Nat.le_of_lt HGL.out) HX.out.size) (fun b e => by have := HVB.out b e; have := HGL.out; omega)))
        have hc0 := hB7.cell 0
        have hc1 := hB7.cell 1
        clear hb2 hB7
        go_wp2_with (with_reducible (show wpList _ _ _ (⟨none, .store 67 (.tmp 4) (.tmp 76), _, _, _, _⟩ :: _) _ _); go_loud (refine wpList_store_blk rfl 67 (.tmp 4) (.tmp 76) rfl w.heap.size #[.int .u64 (a : Int), .slice V many cv] rfl rfl 67 _ HB7.out (by kernel_rfl) rfl (by simp [Value.oneCell']) w.heap.size (Nat.le_refl _) ?_; intro w6 hB6 hF6 hL6; have HB6 := hid hB6; have HF6 := hid hF6; have HL6 := hid hL6; clear hB6 hF6 hL6))
        refine bodyPost_ret (results_blk2 rfl _ _ w.heap.size 67 _ _ rfl HB6.out Try.underlying67 rfl (by kernel_rfl)) rfl ?_
        rw [HFR.out]
        exact ⟨a, _, _, _, rfl, Below.trans HX7.out (HL6.out.mono (Nat.le_of_lt HGL.out)), fun h => absurd h HE0.out⟩
    · obtain rfl : j = q := by omega
      rw [Nat.sub_self] at HON
      have HON2 := hid (show Pat.onS wd j U (-1) (u.drop sz) = (0, M, x) by rw [HON.out]; rfl)
      obtain ⟨XX, hXX⟩ : ∃ XX : ByteArray, XX = ⟨x.toArray⟩ := ⟨_, rfl⟩
      have hpx := HPX.out
      unfold PRd at hpx
      rw [← hXX] at hpx
      have hcx := hpx.cell 0
      clear hpx HON
      by_cases hx0 : x = []
      · have HFR := hid (show Pat.fr3 a wd j U (u.drop sz) = (0, a, M) by rw [Pat.fr3_ok (by rw [HON2.out]) (by rw [HON2.out]; exact hx0), HON2.out])
        obtain rfl : XX = ⟨#[]⟩ := by rw [hXX, hx0]
        clear hXX hx0
        go_wp2_with (with_reducible (show wpList _ _ _ (⟨none, .store 67 (.tmp 4) (.tmp 84), _, _, _, _⟩ :: _) _ _); go_loud (refine wpList_store_blk rfl 67 (.tmp 4) (.tmp 84) rfl w.heap.size #[.int .u64 (a : Int), .slice V many cv] rfl rfl 67 _ HB.out (by kernel_rfl) rfl (by simp [Value.oneCell']) w.heap.size (Nat.le_refl _) ?_; intro w6 hB6 hF6 hL6; have HB6 := hid hB6; have HF6 := hid hF6; have HL6 := hid hL6; clear hB6 hF6 hL6))
        refine bodyPost_ret (results_blk2 rfl _ _ w.heap.size 67 _ _ rfl HB6.out Try.underlying67 rfl (by kernel_rfl)) rfl ?_
        rw [HFR.out]
        have HOF := hid (own_far HO.out (fun e => by have := (HO.out.lt _ e).1; omega) HF6.out)
        exact ⟨a, _, _, _, rfl, Below.trans HX.out (HL6.out.mono (Nat.le_of_lt HGL.out)), fun _ => ⟨rfl, HOF.out⟩⟩
      · have HFR := hid (show Pat.fr3 a wd j U (u.drop sz) = (1, 0, []) by rw [Pat.fr3_more (by rw [HON2.out]) (by rw [HON2.out]; exact hx0)])
        have e1 : XX.toList.isEmpty = false := by
          rw [ByteArray.toList_eq, hXX]; cases x with
          | nil => exact absurd rfl hx0
          | cons _ _ => rfl
        clear hXX hx0
        go_wp2_with (with_reducible (show wpList _ _ _ (⟨none, .store 67 (.tmp 4) (.tmp 84), _, _, _, _⟩ :: _) _ _); go_loud (refine wpList_store_blk rfl 67 (.tmp 4) (.tmp 84) rfl w.heap.size #[.int .u64 (a : Int), .slice V many cv] rfl rfl 67 _ HB.out (by kernel_rfl) rfl (by simp [Value.oneCell']) w.heap.size (Nat.le_refl _) ?_; intro w6 hB6 hF6 hL6; have HB6 := hid hB6; have HF6 := hid hF6; have HL6 := hid hL6; clear hB6 hF6 hL6))
        refine bodyPost_ret (results_blk2 rfl _ _ w.heap.size 67 _ _ rfl HB6.out Try.underlying67 rfl (by kernel_rfl)) rfl ?_
        rw [HFR.out]
        exact ⟨a, _, _, _, rfl, Below.trans HX.out (HL6.out.mono (Nat.le_of_lt HGL.out)), fun h => by cases h⟩
/-- all ways -/
theorem pFrame_any (s : List UInt8) (many g : Nat) (w : World) (h : PRd g w s) (hs : s.length ≤ 281474976710656) (hm : many ≤ 64) :
    Calls Try.prog 71 #[.pointer (some ⟨g, 0, none⟩), .int .i64 many] w (PFr g many s w) := by
  obtain ⟨⟨a, k, e0⟩, hrd⟩ : ∃ p, Vary.rd s = p := ⟨_, rfl⟩
  have hk : k ≤ s.length := by have := (Vary.rd_bd s).1; rw [hrd] at this; exact this
  have ha : a < 18446744073709551616 := by have := (Vary.rd_bd s).2.1; rw [hrd] at this; exact this
  by_cases he : e0 = 0
  · match hcd : s.drop k with
    | [] => exact pFrame_short s many g w h hs hm a k e0 hrd hk ha he (by rw [hcd]; decide)
    | [_] => exact pFrame_short s many g w h hs hm a k e0 hrd hk ha he (by rw [hcd]; simp)
    | c :: d :: u =>
      by_cases h64 : 64 < c.toNat
      · exact pFrame_wide s many g w h hs hm a k e0 hrd hk ha he c d u hcd h64
      by_cases h5 : u.length < Bits.size many c.toNat
      · exact pFrame_short2 s many g w h hs hm a k e0 hrd hk ha he c d u hcd h64 h5
      by_cases h6 : Bits.chk (u.take (Bits.size many c.toNat)) many c.toNat = 0
      · exact pFrame_loop s many g w h hs hm a k e0 hrd hk ha he c d u hcd h64 h5 h6
      · exact pFrame_bad s many g w h hs hm a k e0 hrd hk ha he c d u hcd h64 h5 h6
  · exact pFrame_vary s many g w h hs hm a k e0 hrd hk ha he
end Go.Proofs.Ytdblegdbfdhepaa
