/- Bits: the laws, walked: Tells, Reads. -/
import Derived.Test.YthcmmmccbpfflaaBbg
import Derived.Test.YthcmmmccbpfflaaBpo
import Derived.Test.YthcmmmccbpfflaaBuo
namespace Go.Proofs.Ythcmmmccbpfflaa
open Go.RowKit Hy
set_option maxHeartbeats 1000000 in
theorem bitsTells_walk (l : List Nat) (A : Option Addr) (n cap : Nat) (wd : Int) (w : World) (hn : l.length = n) (hr : Rd w A (u64s l)) (hl : ∀ x ∈ l, x < 18446744073709551616) (hnl : n ≤ 9223372036854775806) :
    Calls Try.prog 10 #[.slice A n cap, .int .i64 wd] w fun e w' => e = .returned (.bool true) ∧ Ext w w' := by
  have H1 := fun (wx : World) (hx : Ext w wx) => hid (pack_any l A n cap wd wx hn (hr.keep hx) hl hnl)
  have H2 := fun (wx : World) (hx : Ext w wx) => hid (packOf_any l A n cap wd wx hn (hr.keep hx) hl hnl)
  have H3 := fun (wx : World) (hx : Ext w wx) => hid (width_any l A n cap wx hn (hr.keep hx) hl hnl)
  have H4 := fun (wx : World) (hx : Ext w wx) => hid (widthOf_any l A n cap wx hn (hr.keep hx) hl hnl)
  generalize (Bits.pk l wd).1.toArray = q at *
  generalize (Bits.pk l wd).2 = er at *
  generalize Bits.width l = z at *
  clear hr hl hn
  go_enter Try.func10, Try.ntmps10
  go_wp2_with fail
  refine (H1 _ (ext_refl _)).out.mono ?_
  rintro e w1 ⟨rfl, b1⟩
  go_wp2_with fail
  refine (H2 _ b1).out.mono ?_
  rintro e w2 ⟨rfl, b2⟩
  go_wp2_with fail
  refine (bitsBegun_any _).mono ?_
  rintro e w3 ⟨rfl, b3⟩
  have B := (b1.then b2).then b3
  go_wp2_with fail
  refine (H3 _ B).out.mono ?_
  rintro e w4 ⟨rfl, rfl⟩
  go_wp2_with fail
  refine (H4 _ B).out.mono ?_
  rintro e w5 ⟨rfl, rfl⟩
  go_wp2_with fail
  go_returns
  exact ⟨rfl, B⟩
theorem gt_err (s : List UInt8) (many wd i : Int) (h : Bits.chk s many wd ≠ 0) : Bits.gt s many wd i = (0, Bits.chk s many wd) := Bits.gt_bad h
set_option maxHeartbeats 1000000 in
theorem bitsReads_walk (s : ByteArray) (many wd i : Int) (w : World) (hz : s.size ≤ 281474976710656) (hi1 : -9223372036854775808 ≤ i) (hi2 : i ≤ 9223372036854775807) :
    Calls Try.prog 11 #[.string s, .int .i64 many, .int .i64 wd, .int .i64 i] w fun e w' => e = .returned (.bool true) ∧ Ext w w' := by
  have H1 := fun wx : World => hid (unpack_any s many wd wx)
  have H2 := fun wx : World => hid (get_any s many wd i wx)
  have H3 := fun wx : World => hid (unpackOf_any s many wd wx hz)
  have HS := hid (show sameNums (Bits.up s.data.toList many wd) (Bits.up s.data.toList many wd) = true from decide_eq_true rfl)
  by_cases h0 : Bits.chk s.data.toList many wd = 0
  · have hup := Bits.up_ok _ _ _ h0
    obtain ⟨c1, c2, c3, c4, c5, c6⟩ := Bits.chk_ok h0
    obtain ⟨m, rfl⟩ := Int.eq_ofNat_of_zero_le c3
    obtain ⟨k, rfl⟩ := Int.eq_ofNat_of_zero_le c1
    rw [Int.toNat_natCast, Int.toNat_natCast] at hup
    have HLen := hid (show (Bits.up s.data.toList m k).length = m by rw [hup, Bits.unp_len])
    have hmI : (m : Int) ≤ 64 := c4
    simp only [h0] at H1 H3
    by_cases h1 : i < 0
    · have hg := Bits.gt_out (i := i) h0 (.inl h1)
      simp only [hg] at H2
      generalize Bits.up s.data.toList (m : Int) (k : Int) = L at *
      clear hup c5 c6 h0 hg
      go_enter Try.func11, Try.ntmps11
      go_wp2_with fail
      refine (H1 _).out.mono ?_
      rintro e w1 ⟨A1, k1, rfl, hr1, b1⟩
      have HR1 := hid hr1
      clear hr1
      go_wp2_with fail
      refine (H2 _).out.mono ?_
      rintro e w2 ⟨rfl, rfl⟩
      go_wp2_with fail
      refine (H3 _).out.mono ?_
      rintro e w3 ⟨A3, k3, rfl, hr3, b3⟩
      have HR3 := hid hr3
      clear hr3
      go_wp2_with fail
      refine (bitsBegun_any _).mono ?_
      rintro e w4 ⟨rfl, b4⟩
      go_wp2_with fail
      refine (sameNums_any L L A1 A3 _ _ k1 k3 _ rfl rfl (HR1.out.keep (b3.then b4)) (HR3.out.keep b4) (by rw [HLen.out]; omega)).mono ?_
      rintro e w5 ⟨rfl, b5⟩
      rw [HS.out]
      go_wp2_with fail
      go_returns
      exact ⟨rfl, (b1.then (b3.then b4)).then b5⟩
    · by_cases h2 : (m : Int) ≤ i
      · have hg := Bits.gt_out (i := i) h0 (.inr h2)
        simp only [hg] at H2
        generalize Bits.up s.data.toList (m : Int) (k : Int) = L at *
        clear hup c5 c6 h0 hg
        go_enter Try.func11, Try.ntmps11
        go_wp2_with fail
        refine (H1 _).out.mono ?_
        rintro e w1 ⟨A1, k1, rfl, hr1, b1⟩
        have HR1 := hid hr1
        clear hr1
        go_wp2_with fail
        refine (H2 _).out.mono ?_
        rintro e w2 ⟨rfl, rfl⟩
        go_wp2_with fail
        refine (H3 _).out.mono ?_
        rintro e w3 ⟨A3, k3, rfl, hr3, b3⟩
        have HR3 := hid hr3
        clear hr3
        go_wp2_with fail
        refine (bitsBegun_any _).mono ?_
        rintro e w4 ⟨rfl, b4⟩
        go_wp2_with fail
        refine (sameNums_any L L A1 A3 _ _ k1 k3 _ rfl rfl (HR1.out.keep (b3.then b4)) (HR3.out.keep b4) (by rw [HLen.out]; omega)).mono ?_
        rintro e w5 ⟨rfl, b5⟩
        rw [HS.out]
        go_wp2_with fail
        go_returns
        exact ⟨rfl, (b1.then (b3.then b4)).then b5⟩
      · have hg := Bits.gt_in (i := i) h0 (by omega)
        obtain ⟨j, rfl⟩ := Int.eq_ofNat_of_zero_le (show 0 ≤ i by omega)
        rw [Int.toNat_natCast, Int.toNat_natCast] at hg
        have hj : j < (Bits.up s.data.toList m k).length := by rw [HLen.out]; omega
        have hx : (Bits.up s.data.toList m k)[j] = Bits.le s.data.toList / 2 ^ (j * k) % 2 ^ k := by
          have := Bits.unp_get s.data.toList m k j (by omega)
          simp only [← hup] at this
          exact this
        simp only [hg] at H2
        rw [← hx] at H2
        have HN := hid (fun (wx : World) (A3 : Option Addr) (h : Rd wx A3 (u64s (Bits.up s.data.toList m k))) => h.nums j hj)
        generalize Bits.up s.data.toList (m : Int) (k : Int) = L at *
        obtain ⟨x, hxx⟩ : ∃ x, x = L[j] := ⟨_, rfl⟩
        rw [← hxx] at H2
        have HX := hid hxx
        clear hup c5 c6 h0 hg hx hxx
        have hjm : (j : Int) < (m : Int) := by omega
        go_enter Try.func11, Try.ntmps11
        go_wp2_with fail
        refine (H1 _).out.mono ?_
        rintro e w1 ⟨A1, k1, rfl, hr1, b1⟩
        have HR1 := hid hr1
        clear hr1
        go_wp2_with fail
        refine (H2 _).out.mono ?_
        rintro e w2 ⟨rfl, rfl⟩
        go_wp2_with fail
        refine (H3 _).out.mono ?_
        rintro e w3 ⟨A3, k3, rfl, hr3, b3⟩
        obtain ⟨b, o, rfl, hb, hcell⟩ := HN.out _ _ hr3
        have hc := hcell j hj
        rw [← HX.out] at hc
        have HR3 := hid hr3
        clear hr3 hcell HX hj HN
        have hlI : (j : Int) < (L.length : Int) := by rw [HLen.out]; exact hjm
        go_wp2_with fail
        refine (bitsBegun_any _).mono ?_
        rintro e w4 ⟨rfl, b4⟩
        go_wp2_with fail
        refine (sameNums_any L L A1 _ _ _ k1 k3 _ rfl rfl (HR1.out.keep (b3.then b4)) (HR3.out.keep b4) (by rw [HLen.out]; omega)).mono ?_
        rintro e w5 ⟨rfl, b5⟩
        rw [HS.out]
        go_wp2_with fail
        go_returns
        exact ⟨rfl, (b1.then (b3.then b4)).then b5⟩
  · have hg := gt_err s.data.toList many wd i h0
    have hup := Bits.up_bad _ _ _ h0
    simp only [hg] at H2
    rw [hup] at HS
    simp only [hup] at H1 H3
    generalize Bits.chk s.data.toList many wd = er at *
    have h3 : ((er : Int) != 0) = true := by rw [bne_iff_ne]; omega
    have h4 : ((er : Int) == 0) = false := by rw [beq_eq_false_iff_ne]; omega
    clear hg hup h0
    go_enter Try.func11, Try.ntmps11
    go_wp2_with fail
    refine (H1 _).out.mono ?_
    rintro e w1 ⟨A1, k1, rfl, hr1, b1⟩
    have HR1 := hid hr1
    clear hr1
    go_wp2_with fail
    refine (H2 _).out.mono ?_
    rintro e w2 ⟨rfl, rfl⟩
    go_wp2_with fail
    refine (H3 _).out.mono ?_
    rintro e w3 ⟨A3, k3, rfl, hr3, b3⟩
    have HR3 := hid hr3
    clear hr3
    go_wp2_with fail
    refine (bitsBegun_any _).mono ?_
    rintro e w4 ⟨rfl, b4⟩
    go_wp2_with fail
    refine (sameNums_any [] [] A1 A3 _ _ k1 k3 _ rfl rfl (HR1.out.keep (b3.then b4)) (HR3.out.keep b4) (by decide)).mono ?_
    rintro e w5 ⟨rfl, b5⟩
    rw [HS.out]
    go_wp2_with fail
    go_returns
    exact ⟨rfl, (b1.then (b3.then b4)).then b5⟩
end Go.Proofs.Ythcmmmccbpfflaa
