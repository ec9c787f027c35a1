/- Bits: the laws, walked: Back, Only, Joins. -/
import Derived.Test.YthcmmmccbpfflaaBbg
namespace Hy.Bits
open Go
theorem pk_ok {l : List Nat} {w : Int} (h : (pk l w).2 = 0) (hl : ∀ n ∈ l, n < 2 ^ 64) : 0 ≤ w ∧ w ≤ 64 ∧ l.length ≤ 64 ∧ (∀ n ∈ l, n < 2 ^ w.toNat) ∧ pk l w = (packed l w.toNat, 0) := by
  unfold pk at h ⊢
  split at h
  · cases h
  · rename_i h1
    split at h
    · cases h
    · rename_i h2
      split at h
      · cases h
      · rename_i h3
        rw [if_neg h1, if_neg h2, if_neg h3]
        have h4 : 0 ≤ w ∧ w ≤ 64 := Decidable.not_not.1 h1
        exact ⟨h4.1, h4.2, by omega, (width_le_iff l w.toNat hl (by omega)).1 (by omega), rfl⟩
theorem pk_bad {l : List Nat} {w : Int} (h : (pk l w).2 ≠ 0) : (pk l w).1 = [] := by
  unfold pk at h ⊢
  split at h
  · rename_i h1; rw [if_pos h1]
  · rename_i h1
    split at h
    · rename_i h2; rw [if_neg h1, if_pos h2]
    · rename_i h2
      split at h
      · rename_i h3; rw [if_neg h1, if_neg h2, if_pos h3]
      · exact absurd rfl h
theorem pk_of {l : List Nat} {w : Nat} (h1 : w ≤ 64) (h2 : l.length ≤ 64) (h3 : ∀ n ∈ l, n < 2 ^ w) : pk l w = (packed l w, 0) := by
  have h64 : 2 ^ w ≤ 2 ^ 64 := Nat.pow_le_pow_right (by decide) h1
  have h4 := (width_le_iff l w (fun n hn => Nat.lt_of_lt_of_le (h3 n hn) h64) h1).2 h3
  unfold pk
  rw [if_neg (fun h => h ⟨by omega, by omega⟩), if_neg (by omega), if_neg (by omega), Int.toNat_natCast]
theorem chk_packed {l : List Nat} {w : Nat} (h1 : w ≤ 64) (h2 : l.length ≤ 64) (h3 : ∀ n ∈ l, n < 2 ^ w) : chk (packed l w) l.length w = 0 :=
  chk_of h1 h2 (packed_len l w) (by rw [le_packed l w h3]; exact num_lt w l h3)
theorem up_packed {l : List Nat} {w : Nat} (h1 : w ≤ 64) (h2 : l.length ≤ 64) (h3 : ∀ n ∈ l, n < 2 ^ w) : up (packed l w) l.length w = l := by
  rw [up_ok _ _ _ (chk_packed h1 h2 h3), Int.toNat_natCast, Int.toNat_natCast, unp_packed l w h3]
theorem gt_packed {l : List Nat} {w i : Nat} (h1 : w ≤ 64) (h2 : l.length ≤ 64) (h3 : ∀ n ∈ l, n < 2 ^ w) (hi : i < l.length) : gt (packed l w) l.length w i = (l[i], 0) := by
  rw [gt_in (chk_packed h1 h2 h3) (by omega), Int.toNat_natCast, Int.toNat_natCast, le_packed l w h3, num_get w l h3 i hi]
end Hy.Bits
namespace Go.Proofs.Ythcmmmccbpfflaa
open Go.RowKit Hy
set_option maxHeartbeats 1000000 in
theorem bitsBack_walk (l : List Nat) (A : Option Addr) (n cap : Nat) (wd i : Int) (w : World) (hn : l.length = n) (hr : Rd w A (u64s l)) (hl : ∀ x ∈ l, x < 18446744073709551616) (hnl : n ≤ 9223372036854775806) (hi1 : -9223372036854775808 ≤ i) (hi2 : i ≤ 9223372036854775807) :
    Calls Try.prog 12 #[.slice A n cap, .int .i64 wd, .int .i64 i] w fun e w' => e = .returned (.bool true) ∧ Ext w w' := by
  have H1 := fun wx : World => fun hx : Ext w wx => hid (pack_any l A n cap wd wx hn (hr.keep hx) hl hnl)
  by_cases h0 : (Bits.pk l wd).2 = 0
  · obtain ⟨c1, c2, c3, c4, c5⟩ := Bits.pk_ok h0 hl
    obtain ⟨k, rfl⟩ := Int.eq_ofNat_of_zero_le c1
    rw [Int.toNat_natCast] at c4 c5
    simp only [c5] at H1
    have hk : k ≤ 64 := by omega
    have e1 := Bits.chk_packed hk c3 c4
    have e2 := Bits.up_packed hk c3 c4
    have H2 := hid (unpack_of (Bits.packed l k) l.length k l 0 e2 e1)
    have HG : Hid (∀ (j : Nat) (hj : j < l.length) (wx : World), Calls Try.prog 33 #[.string ⟨(Bits.packed l k).toArray⟩, .int .i64 (n : Int), .int .i64 k, .int .i64 j] wx fun e w' => e = .returned (.tuple #[.int .u64 (l[j] : Nat), .int .i64 (0 : Nat)]) ∧ wx = w') :=
      hid (fun j hj wx => by have := get_of (Bits.packed l k) l.length k j l[j] 0 (Bits.gt_packed hk c3 c4 hj) wx; simp only [hn] at this; exact this)
    rw [hn] at H2
    have HS := hid (show sameNums l l = true from decide_eq_true rfl)
    have HSN := hid (fun (wx : World) (A1 : Option Addr) (k1 : Nat) (h1 : Rd wx A1 (u64s l)) (hx : Ext w wx) => sameNums_any l l A1 A l.length n k1 cap wx rfl hn h1 (hr.keep hx) (by omega))
    obtain ⟨S, hS⟩ : ∃ S : ByteArray, S = ⟨(Bits.packed l k).toArray⟩ := ⟨_, rfl⟩
    rw [← hS] at H1 H2 HG
    have HRD := hid hr
    have HN := hid hn
    have hnI : (n : Int) ≤ 64 := by omega
    clear hS e1 e2 c5 c4 h0 hl hr hn hnl c3
    by_cases h1 : i < 0
    · go_enter Try.func12, Try.ntmps12
      go_wp2_with fail
      refine (H1 _ (ext_refl _)).out.mono ?_
      rintro e w1 ⟨rfl, b1⟩
      go_wp2_with fail
      refine (bitsBegun_any _).mono ?_
      rintro e w2 ⟨rfl, b2⟩
      go_wp2_with fail
      refine (H2.out _).mono ?_
      rintro e w3 ⟨A3, k3, rfl, hr3, b3⟩
      have HR3 := hid hr3
      clear hr3
      go_wp2_with fail
      have B := (b1.then b2).then b3
      refine (HSN.out _ A3 k3 HR3.out B).mono ?_
      rintro e w4 ⟨rfl, b4⟩
      rw [HS.out]
      go_wp2_with fail
      go_returns
      exact ⟨rfl, B.then b4⟩
    · by_cases h2 : (n : Int) ≤ i
      · go_enter Try.func12, Try.ntmps12
        go_wp2_with fail
        refine (H1 _ (ext_refl _)).out.mono ?_
        rintro e w1 ⟨rfl, b1⟩
        go_wp2_with fail
        refine (bitsBegun_any _).mono ?_
        rintro e w2 ⟨rfl, b2⟩
        go_wp2_with fail
        refine (H2.out _).mono ?_
        rintro e w3 ⟨A3, k3, rfl, hr3, b3⟩
        have HR3 := hid hr3
        clear hr3
        go_wp2_with fail
        have B := (b1.then b2).then b3
        refine (HSN.out _ A3 k3 HR3.out B).mono ?_
        rintro e w4 ⟨rfl, b4⟩
        rw [HS.out]
        go_wp2_with fail
        go_returns
        exact ⟨rfl, B.then b4⟩
      · obtain ⟨j, rfl⟩ := Int.eq_ofNat_of_zero_le (show 0 ≤ i by omega)
        have hj : j < l.length := by rw [HN.out]; omega
        have HGJ := fun wx : World => hid (HG.out j hj wx)
        obtain ⟨b, o, e1, hb, hcell⟩ := HRD.out.nums j hj
        subst e1
        have hc0 := hcell j hj
        obtain ⟨x, hx⟩ : ∃ x, x = l[j] := ⟨_, rfl⟩
        rw [← hx] at hc0 HGJ
        have hjI : (j : Int) < (n : Int) := by omega
        clear HG hcell hx hj
        go_enter Try.func12, Try.ntmps12
        go_wp2_with fail
        refine (H1 _ (ext_refl _)).out.mono ?_
        rintro e w1 ⟨rfl, b1⟩
        go_wp2_with fail
        refine (bitsBegun_any _).mono ?_
        rintro e w2 ⟨rfl, b2⟩
        go_wp2_with fail
        refine (H2.out _).mono ?_
        rintro e w3 ⟨A3, k3, rfl, hr3, b3⟩
        have HR3 := hid hr3
        clear hr3
        go_wp2_with fail
        have B := (b1.then b2).then b3
        refine (HSN.out _ A3 k3 HR3.out B).mono ?_
        rintro e w4 ⟨rfl, b4⟩
        rw [HS.out]
        go_wp2_with fail
        refine (HGJ _).out.mono ?_
        rintro e w5 ⟨rfl, rfl⟩
        have hc4 := ((B.then b4).cell (p := ⟨b, o + j, none⟩) hb).trans hc0
        go_wp2_with fail
        go_returns
        exact ⟨rfl, B.then b4⟩
  · have hq := Bits.pk_bad h0
    simp only [hq] at H1
    generalize (Bits.pk l wd).2 = er at *
    have h3 : ((er : Int) != 0) = true := by rw [bne_iff_ne]; omega
    have h4 : ((er : Int) == 0) = false := by rw [beq_eq_false_iff_ne]; omega
    clear hq h0 hr hl hn
    go_enter Try.func12, Try.ntmps12
    go_wp2_with fail
    refine (H1 _ (ext_refl _)).out.mono ?_
    rintro e w1 ⟨rfl, b1⟩
    go_wp2_with fail
    refine (bitsBegun_any _).mono ?_
    rintro e w2 ⟨rfl, b2⟩
    go_wp2_with fail
    go_returns
    exact ⟨rfl, b1.then b2⟩
set_option maxHeartbeats 1000000 in
theorem bitsOnly_walk (s : ByteArray) (many wd : Int) (w : World) :
    Calls Try.prog 13 #[.string s, .int .i64 many, .int .i64 wd] w fun e w' => e = .returned (.bool true) ∧ Ext w w' := by
  have H1 := fun wx : World => hid (unpack_any s many wd wx)
  by_cases h0 : Bits.chk s.data.toList many wd = 0
  · have hup := Bits.up_ok _ _ _ h0
    obtain ⟨c1, c2, c3, c4, c5, c6⟩ := Bits.chk_ok h0
    obtain ⟨m, rfl⟩ := Int.eq_ofNat_of_zero_le c3
    obtain ⟨k, rfl⟩ := Int.eq_ofNat_of_zero_le c1
    rw [Int.toNat_natCast, Int.toNat_natCast] at hup c5 c6
    have hlen := Bits.unp_len s.data.toList m k
    have hlt := Bits.unp_lt s.data.toList m k
    have hpk := Bits.pk_of (l := Bits.unp s.data.toList m k) (w := k) (by omega) (by omega) hlt
    rw [Bits.packed_unp s.data.toList m k c5 c6] at hpk
    have h64 : 2 ^ k ≤ 2 ^ 64 := Nat.pow_le_pow_right (by decide) (by omega)
    have H2 := hid (fun (wx : World) (A1 : Option Addr) (k1 : Nat) (h1 : Rd wx A1 (u64s (Bits.unp s.data.toList m k))) => pack_of _ k _ _ (Bits.unp s.data.toList m k).length k1 A1 wx hpk rfl h1 (fun x hx => Nat.lt_of_lt_of_le (hlt x hx) h64) (by omega))
    simp only [h0, hup] at H1
    simp only [str_self] at H2
    generalize Bits.unp s.data.toList m k = L at *
    have HLen := hid hlen
    have hlI : (L.length : Int) = (m : Int) := by omega
    have HLI := hid hlI
    clear hup c5 c6 h0 hpk hlt hlen hlI h64
    go_enter Try.func13, Try.ntmps13
    go_wp2_with fail
    refine (H1 _).out.mono ?_
    rintro e w1 ⟨A1, k1, rfl, hr1, b1⟩
    have HR1 := hid hr1
    clear hr1
    go_wp2_with fail
    refine (bitsBegun_any _).mono ?_
    rintro e w2 ⟨rfl, b2⟩
    go_wp2_with fail
    refine (H2.out _ A1 k1 (HR1.out.keep b2)).mono ?_
    rintro e w3 ⟨rfl, b3⟩
    have hlI := HLI.out
    go_wp2_with fail
    go_returns
    exact ⟨rfl, (b1.then b2).then b3⟩
  · have hup := Bits.up_bad _ _ _ h0
    simp only [hup] at H1
    generalize Bits.chk s.data.toList many wd = er at *
    have h3 : ((er : Int) != 0) = true := by rw [bne_iff_ne]; omega
    have h4 : ((er : Int) == 0) = false := by rw [beq_eq_false_iff_ne]; omega
    clear hup h0
    go_enter Try.func13, Try.ntmps13
    go_wp2_with fail
    refine (H1 _).out.mono ?_
    rintro e w1 ⟨A1, k1, rfl, hr1, b1⟩
    clear hr1
    go_wp2_with fail
    refine (bitsBegun_any _).mono ?_
    rintro e w2 ⟨rfl, b2⟩
    go_wp2_with fail
    go_returns
    exact ⟨rfl, b1.then b2⟩
end Go.Proofs.Ythcmmmccbpfflaa
