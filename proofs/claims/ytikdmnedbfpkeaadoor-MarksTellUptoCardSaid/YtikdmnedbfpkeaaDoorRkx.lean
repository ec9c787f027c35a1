/- The law MarksTell: walk. -/
import Derived.Test.YtikdmnedbfpkeaaDoorRkw
import Derived.Test.YtikdmnedbfpkeaaDoorRkm
import Derived.Test.YtikdmnedbfpkeaaDoorBpo
import Derived.Test.YtikdmnedbfpkeaaDoorBuo
import Derived.Test.YtikdmnedbfpkeaaDoorSnm
namespace Hy.Mrk
open Go Go.RowKit Hy
theorem bothV_len (f : List Bool → Bool) (a b : List Bool) : (bothV f a b).1.length ≤ 64 := by
  unfold bothV; split
  · simp
  · split
    · simp
    · simp [eachL]; omega
theorem notV_len (a : List Bool) : (notV a).1.length ≤ 64 := by
  unfold notV; split
  · simp
  · rw [nots_len]; omega
theorem up_len64 (s : List UInt8) (many : Int) : (Bits.up s many 1).length ≤ 64 := by
  by_cases h : Bits.chk s many 1 = 0
  · rw [Bits.up_ok _ _ _ h, Bits.unp_len]; have := Bits.chk_ok h; omega
  · rw [Bits.up_bad _ _ _ h]; decide
theorem up_lt2 (s : List UInt8) (many : Int) : ∀ x ∈ Bits.up s many 1, x < 2 := by
  by_cases h : Bits.chk s many 1 = 0
  · rw [Bits.up_ok _ _ _ h]; intro x hx
    have := Bits.unp_lt s many.toNat (1 : Int).toNat x hx
    simpa using this
  · rw [Bits.up_bad _ _ _ h]; intro x hx; cases hx
theorem ones_marks (l : List Nat) (h : ∀ x ∈ l, x < 2) : ones (marks l) = l := by
  unfold ones marks
  rw [List.map_map]
  conv => rhs; rw [← List.map_id l]
  refine List.map_congr_left fun x hx => ?_
  have := h x hx
  rcases (show x = 0 ∨ x = 1 by omega) with rfl | rfl <;> rfl
theorem marks_ones (l : List Bool) : marks (ones l) = l := by
  unfold ones marks
  rw [List.map_map]
  conv => rhs; rw [← List.map_id l]
  refine List.map_congr_left fun x hx => ?_
  cases x <;> rfl
end Hy.Mrk
namespace Go.Proofs.YtikdmnedbfpkeaaDoor
open Go.RowKit Hy
set_option maxHeartbeats 6400000 in
theorem marksTell_any (a b : List Bool) (s : ByteArray) (many : Int) (A B : Option Addr) (n m ca cb : Nat) (w : World) (hn : a.length = n) (hm : b.length = m) (ra : Rd w A (bls a)) (rb : Rd w B (bls b)) (hnl : n ≤ 1048576) (hz : s.size ≤ 281474976710656) (hT : TabOk w) :
    Calls Tryd.prog 7 #[.slice A n ca, .slice B m cb, .string s, .int .i64 many] w fun e w' => e = .returned (.bool true) ∧ Ext w w' := by
  have F1 := hid (and_all a b A B n m ca cb w hn hm ra rb)
  have F2 := hid (fun wx (hx : Ext w wx) => or_all a b A B n m ca cb wx hn hm (ra.keep hx) (rb.keep hx))
  have F3 := hid (fun wx (hx : Ext w wx) => not_all a A n ca wx hn (ra.keep hx))
  have F4 := hid (fun wx (hx : Ext w wx) => bytes_any a A n ca wx hn (ra.keep hx) (by omega))
  have F5 := hid (fun wx => of_all s many wx)
  have F6 := hid (fun wx (hx : Ext w wx) => marksOf_andall a b A B n m ca cb wx hn hm (ra.keep hx) (rb.keep hx))
  have F7 := hid (fun wx (hx : Ext w wx) => marksOf_orall a b A B n m ca cb wx hn hm (ra.keep hx) (rb.keep hx))
  have F8 := hid (fun wx (hx : Ext w wx) => notOf_all a A n ca wx hn (ra.keep hx) (by omega))
  have F9 := hid (fun wx (hx : Ext w wx) => onesOf_any a A n ca wx hn (ra.keep hx) (by omega))
  have F10 := hid (fun wx C c (hr : Rd wx C (u64s (Mrk.ones a))) => packOf_any (Mrk.ones a) C n c 1 wx ((Mrk.ones_len a).trans hn) hr (Mrk.ones_lt a) (by omega))
  have F11 := hid (fun wx => unpackOf_any s many 1 wx hz)
  have F12 := hid (fun wx (hx : Ext w wx) => rankBegun_any wx (hT.keep hx))
  have F13 := hid (fun wx (l : List Bool) C D c d (h64 : l.length ≤ 64) (r1 : Rd wx C (bls l)) (r2 : Rd wx D (bls l)) => (by have h := sameMarks_any l l C D l.length l.length c d wx rfl rfl r1 r2 (by omega); rwa [show decide (l = l) = true by simp] at h : Calls Tryd.prog 18 #[.slice C l.length c, .slice D l.length d] wx fun e w' => e = .returned (.bool true) ∧ Ext wx w'))
  have F14 := hid (fun wx (l : List Bool) C c (h64 : l.length ≤ 64) (r : Rd wx C (bls l)) => onesOf_any l C l.length c wx rfl r (by omega))
  have F15 := hid (fun wx (l : List Nat) C D c d (h64 : l.length ≤ 64) (r1 : Rd wx C (u64s l)) (r2 : Rd wx D (u64s l)) => (by have h := sameNums_any l l C D l.length l.length c d wx rfl rfl r1 r2 (by omega); rwa [show sameNums l l = true by simp [sameNums]] at h : Calls Tryd.prog 27 #[.slice C l.length c, .slice D l.length d] wx fun e w' => e = .returned (.bool true) ∧ Ext wx w'))
  have L1 := hid (Mrk.bothV_len fAnd a b)
  have L2 := hid (Mrk.bothV_len fOr a b)
  have L3 := hid (Mrk.notV_len a)
  have L4 := hid (Mrk.up_len64 s.data.toList many)
  have O5 := hid (Mrk.ones_marks _ (Mrk.up_lt2 s.data.toList many))
  have M5 := hid (Mrk.marks_len (Bits.up s.data.toList many 1))
  generalize Mrk.bothV fAnd a b = V1 at *
  generalize Mrk.bothV fOr a b = V2 at *
  generalize Mrk.notV a = V3 at *
  generalize Bits.pk (Mrk.ones a) 1 = V4 at *
  generalize Bits.up s.data.toList many 1 = U at *
  generalize Bits.chk s.data.toList many 1 = er at *
  obtain ⟨P1, e1⟩ := V1
  obtain ⟨P2, e2⟩ := V2
  obtain ⟨P3, e3⟩ := V3
  obtain ⟨P4, e4⟩ := V4
  have b1 : (e1 == e1) = true := by simp
  have b2 : (e2 == e2) = true := by simp
  have b3 : (e3 == e3) = true := by simp
  have b4 : (((e4 : Nat) : Int) == (e4 : Int)) = true := by simp
  have b5 : (((er : Nat) : Int) == (er : Int)) = true := by simp
  clear hn hm ra rb hnl hz hT
  go_enter Tryd.func7, Tryd.ntmps7
  go_wp2_with fail
  refine Calls.mono (F1.out) ?_
  rintro e w1 ⟨C1, cC1, rfl, hr, hx⟩
  have X1 := hid (hx)
  have R1 := hid hr
  clear hx hr
  have Xp := X1
  clear X1
  go_wp2_with fail
  refine Calls.mono (F2.out _ Xp.out) ?_
  rintro e w2 ⟨C2, cC2, rfl, hr, hx⟩
  have X2 := hid (Xp.out.then hx)
  replace R1 := hid (R1.out.keep hx)
  have R2 := hid hr
  clear hx hr Xp
  have Xp := X2
  clear X2
  go_wp2_with fail
  refine Calls.mono (F3.out _ Xp.out) ?_
  rintro e w3 ⟨C3, cC3, rfl, hr, hx⟩
  have X3 := hid (Xp.out.then hx)
  replace R1 := hid (R1.out.keep hx)
  replace R2 := hid (R2.out.keep hx)
  have R3 := hid hr
  clear hx hr Xp
  have Xp := X3
  clear X3
  go_wp2_with fail
  refine Calls.mono (F4.out _ Xp.out) ?_
  rintro e w4 ⟨rfl, hx⟩
  have X4 := hid (Xp.out.then hx)
  replace R1 := hid (R1.out.keep hx)
  replace R2 := hid (R2.out.keep hx)
  replace R3 := hid (R3.out.keep hx)
  clear hx Xp
  have Xp := X4
  clear X4
  go_wp2_with fail
  refine Calls.mono (F5.out _) ?_
  rintro e w5 ⟨C5, cC5, rfl, hr, hx⟩
  have X5 := hid (Xp.out.then hx)
  replace R1 := hid (R1.out.keep hx)
  replace R2 := hid (R2.out.keep hx)
  replace R3 := hid (R3.out.keep hx)
  have R5 := hid hr
  clear hx hr Xp
  have Xp := X5
  clear X5
  go_wp2_with fail
  refine Calls.mono (F6.out _ Xp.out) ?_
  rintro e w6 ⟨C6, cC6, rfl, hr, hx⟩
  have X6 := hid (Xp.out.then hx)
  replace R1 := hid (R1.out.keep hx)
  replace R2 := hid (R2.out.keep hx)
  replace R3 := hid (R3.out.keep hx)
  replace R5 := hid (R5.out.keep hx)
  have R6 := hid hr
  clear hx hr Xp
  have Xp := X6
  clear X6
  go_wp2_with fail
  refine Calls.mono (F7.out _ Xp.out) ?_
  rintro e w7 ⟨C7, cC7, rfl, hr, hx⟩
  have X7 := hid (Xp.out.then hx)
  replace R1 := hid (R1.out.keep hx)
  replace R2 := hid (R2.out.keep hx)
  replace R3 := hid (R3.out.keep hx)
  replace R5 := hid (R5.out.keep hx)
  replace R6 := hid (R6.out.keep hx)
  have R7 := hid hr
  clear hx hr Xp
  have Xp := X7
  clear X7
  go_wp2_with fail
  refine Calls.mono (F8.out _ Xp.out) ?_
  rintro e w8 ⟨C8, cC8, rfl, hr, hx⟩
  have X8 := hid (Xp.out.then hx)
  replace R1 := hid (R1.out.keep hx)
  replace R2 := hid (R2.out.keep hx)
  replace R3 := hid (R3.out.keep hx)
  replace R5 := hid (R5.out.keep hx)
  replace R6 := hid (R6.out.keep hx)
  replace R7 := hid (R7.out.keep hx)
  have R8 := hid hr
  clear hx hr Xp
  have Xp := X8
  clear X8
  go_wp2_with fail
  refine Calls.mono (F9.out _ Xp.out) ?_
  rintro e w9 ⟨C9, cC9, rfl, hr, hx⟩
  have X9 := hid (Xp.out.then hx)
  replace R1 := hid (R1.out.keep hx)
  replace R2 := hid (R2.out.keep hx)
  replace R3 := hid (R3.out.keep hx)
  replace R5 := hid (R5.out.keep hx)
  replace R6 := hid (R6.out.keep hx)
  replace R7 := hid (R7.out.keep hx)
  replace R8 := hid (R8.out.keep hx)
  have R9 := hid hr
  clear hx hr Xp
  have Xp := X9
  clear X9
  go_wp2_with fail
  refine Calls.mono (F10.out _ _ _ R9.out) ?_
  rintro e w10 ⟨rfl, hx⟩
  have X10 := hid (Xp.out.then hx)
  replace R1 := hid (R1.out.keep hx)
  replace R2 := hid (R2.out.keep hx)
  replace R3 := hid (R3.out.keep hx)
  replace R5 := hid (R5.out.keep hx)
  replace R6 := hid (R6.out.keep hx)
  replace R7 := hid (R7.out.keep hx)
  replace R8 := hid (R8.out.keep hx)
  replace R9 := hid (R9.out.keep hx)
  clear hx Xp
  have Xp := X10
  clear X10
  go_wp2_with fail
  refine Calls.mono (F11.out _) ?_
  rintro e w11 ⟨C11, cC11, rfl, hr, hx⟩
  have X11 := hid (Xp.out.then hx)
  replace R1 := hid (R1.out.keep hx)
  replace R2 := hid (R2.out.keep hx)
  replace R3 := hid (R3.out.keep hx)
  replace R5 := hid (R5.out.keep hx)
  replace R6 := hid (R6.out.keep hx)
  replace R7 := hid (R7.out.keep hx)
  replace R8 := hid (R8.out.keep hx)
  replace R9 := hid (R9.out.keep hx)
  have R11 := hid hr
  clear hx hr Xp
  have Xp := X11
  clear X11
  go_wp2_with fail
  refine Calls.mono (F12.out _ Xp.out) ?_
  rintro e w12 ⟨rfl, hx⟩
  have X12 := hid (Xp.out.then hx)
  replace R1 := hid (R1.out.keep hx)
  replace R2 := hid (R2.out.keep hx)
  replace R3 := hid (R3.out.keep hx)
  replace R5 := hid (R5.out.keep hx)
  replace R6 := hid (R6.out.keep hx)
  replace R7 := hid (R7.out.keep hx)
  replace R8 := hid (R8.out.keep hx)
  replace R9 := hid (R9.out.keep hx)
  replace R11 := hid (R11.out.keep hx)
  clear hx Xp
  have Xp := X12
  clear X12
  go_wp2_with fail
  refine Calls.mono (F13.out _ P1 _ _ _ _ L1.out R1.out R6.out) ?_
  rintro e w13 ⟨rfl, hx⟩
  have X13 := hid (Xp.out.then hx)
  replace R1 := hid (R1.out.keep hx)
  replace R2 := hid (R2.out.keep hx)
  replace R3 := hid (R3.out.keep hx)
  replace R5 := hid (R5.out.keep hx)
  replace R6 := hid (R6.out.keep hx)
  replace R7 := hid (R7.out.keep hx)
  replace R8 := hid (R8.out.keep hx)
  replace R9 := hid (R9.out.keep hx)
  replace R11 := hid (R11.out.keep hx)
  clear hx Xp
  have Xp := X13
  clear X13
  go_wp2_with fail
  refine Calls.mono (F13.out _ P2 _ _ _ _ L2.out R2.out R7.out) ?_
  rintro e w14 ⟨rfl, hx⟩
  have X14 := hid (Xp.out.then hx)
  replace R1 := hid (R1.out.keep hx)
  replace R2 := hid (R2.out.keep hx)
  replace R3 := hid (R3.out.keep hx)
  replace R5 := hid (R5.out.keep hx)
  replace R6 := hid (R6.out.keep hx)
  replace R7 := hid (R7.out.keep hx)
  replace R8 := hid (R8.out.keep hx)
  replace R9 := hid (R9.out.keep hx)
  replace R11 := hid (R11.out.keep hx)
  clear hx Xp
  have Xp := X14
  clear X14
  go_wp2_with fail
  refine Calls.mono (F13.out _ P3 _ _ _ _ L3.out R3.out R8.out) ?_
  rintro e w15 ⟨rfl, hx⟩
  have X15 := hid (Xp.out.then hx)
  replace R1 := hid (R1.out.keep hx)
  replace R2 := hid (R2.out.keep hx)
  replace R3 := hid (R3.out.keep hx)
  replace R5 := hid (R5.out.keep hx)
  replace R6 := hid (R6.out.keep hx)
  replace R7 := hid (R7.out.keep hx)
  replace R8 := hid (R8.out.keep hx)
  replace R9 := hid (R9.out.keep hx)
  replace R11 := hid (R11.out.keep hx)
  clear hx Xp
  have Xp := X15
  clear X15
  go_wp2_with fail
  refine Calls.mono (F14.out _ (Mrk.marks U) _ _ (by rw [M5.out]; exact L4.out) R5.out) ?_
  rintro e w16 ⟨C12, cC12, rfl, hr, hx⟩
  have X16 := hid (Xp.out.then hx)
  replace R1 := hid (R1.out.keep hx)
  replace R2 := hid (R2.out.keep hx)
  replace R3 := hid (R3.out.keep hx)
  replace R5 := hid (R5.out.keep hx)
  replace R6 := hid (R6.out.keep hx)
  replace R7 := hid (R7.out.keep hx)
  replace R8 := hid (R8.out.keep hx)
  replace R9 := hid (R9.out.keep hx)
  replace R11 := hid (R11.out.keep hx)
  have R12 := hid hr
  clear hx hr Xp
  have Xp := X16
  clear X16
  rw [M5.out]
  replace R12 := hid (show Rd _ _ (u64s U) by have h := R12.out; rwa [O5.out] at h)
  go_wp2_with fail
  refine Calls.mono (F15.out _ U _ _ _ _ L4.out R12.out R11.out) ?_
  rintro e w17 ⟨rfl, hx⟩
  have X17 := hid (Xp.out.then hx)
  replace R1 := hid (R1.out.keep hx)
  replace R2 := hid (R2.out.keep hx)
  replace R3 := hid (R3.out.keep hx)
  replace R5 := hid (R5.out.keep hx)
  replace R6 := hid (R6.out.keep hx)
  replace R7 := hid (R7.out.keep hx)
  replace R8 := hid (R8.out.keep hx)
  replace R9 := hid (R9.out.keep hx)
  replace R11 := hid (R11.out.keep hx)
  replace R12 := hid (R12.out.keep hx)
  clear hx Xp
  have Xp := X17
  clear X17
  go_wp2
  go_returns
  exact ⟨rfl, Xp.out⟩
end Go.Proofs.YtikdmnedbfpkeaaDoor
