/- Hybrid: the closed test; the laws Tells, Reads, Back, Cut: walks. -/
import Derived.Test.YtdblegdbfdhepaaHyd
import Derived.Test.YtdblegdbfdhepaaHyg
import Derived.Test.YtdblegdbfdhepaaHyh
import Derived.Test.YtdblegdbfdhepaaHyj
import Derived.Test.YtdblegdbfdhepaaBpo
import Derived.Test.YtdblegdbfdhepaaSnm
namespace Hy.Hyb
open Go
theorem wrt_a : wrt [1, 2, 3, 4, 5, 6, 7, 0, 3, 3, 3, 3, 3, 3, 3, 3, 3, 1] 3 = ([3, 209, 88, 31, 18, 3, 3, 1, 0, 0], 0) := by decide +kernel
theorem rdl_a : rdl [3, 209, 88, 31, 18, 3, 3, 1, 0, 0] 18 3 = ([1, 2, 3, 4, 5, 6, 7, 0, 3, 3, 3, 3, 3, 3, 3, 3, 3, 1], 0) := by decide +kernel
theorem rdl_b : rdl [0] 1 3 = ([], 1) := by decide +kernel
theorem rdl_c : rdl [20, 3] 9 3 = ([], 2) := by decide +kernel
theorem rdl_d : rdl [18, 11] 9 3 = ([], 1) := by decide +kernel
theorem rdF_len (w many : Nat) : ∀ (f : Nat) (s : List UInt8) (o : List Nat), o.length ≤ many → (rdF w many f s o).1.length ≤ many
  | 0, s, o, h => by
    rw [rdF]
    split
    · split <;> simp [h]
    · simp
  | f + 1, s, o, h => by
    rw [rdF]
    split
    · split <;> simp [h]
    · rename_i hlt
      split
      · simp
      · rename_i h0
        refine rdF_len w many f _ _ ?_
        have := stp_len (w := w) (left := many - o.length) (s := s) (by omega) (by omega)
        rw [List.length_append]; omega
theorem rdl_len (s : List UInt8) (many w : Int) : (rdl s many w).1.length ≤ 64 := by
  unfold rdl
  split
  · simp
  · split
    · simp
    · have := rdF_len w.toNat many.toNat many.toNat s [] (by simp)
      omega
/-- what is written is read -/
theorem rdl_raw {l : List Nat} {k : Nat} (hk : k ≤ 64) (hn : l.length ≤ 64) (hl : ∀ x ∈ l, x < 2 ^ k) (t : List UInt8) : rdl (raw l k ++ t) l.length k = if t = [] then (l, 0) else ([], 1) := by
  rw [rdl_in hk hn]
  have := rd_parts k l.length hk hn l.length l [] [] t l.length (Nat.le_refl _) (by simpa using hl) (.inl rfl) (by simp) (by simp)
  simpa [raw] using this
theorem rdl_cut {l : List Nat} {k j : Nat} (hk : k ≤ 64) (hn : l.length ≤ 64) (hl : ∀ x ∈ l, x < 2 ^ k) (hj : j < (raw l k).length) : rdl ((raw l k).take j) l.length k = ([], 5) := by
  rw [rdl_in hk hn]
  exact rd_cut k l.length hk hn l.length l [] [] l.length j (Nat.le_refl _) (by simpa using hl) (.inl rfl) (by simp) (by simp) hj
end Hy.Hyb
namespace Go.Proofs.Ytdblegdbfdhepaa
open Go.RowKit Hy
theorem hyWrite_of (l : List Nat) (r : List UInt8) (er : Nat) (A : Option Addr) (n cap : Nat) (wd : Int) (w : World) (hn : l.length = n) (hr : Rd w A (u64s l)) (hcap : n ≤ cap) (hl : ∀ x ∈ l, x < 18446744073709551616) (hnl : n ≤ 9223372036854775806) (h : Hyb.wrt l wd = (r, er)) :
    Calls Try.prog 20 #[.slice A n cap, .int .i64 wd] w fun e w' => e = .returned (.tuple #[.string ⟨r.toArray⟩, .int .i64 er]) ∧ Ext w w' := by
  have h1 := hyWrite_any l A n cap wd w hn hr hcap hl hnl
  rw [h] at h1; exact h1
theorem hyRead_of (s : List UInt8) (many wd : Int) (w : World) (l : List Nat) (er : Nat) (h : Hyb.rdl s many wd = (l, er)) :
    Calls Try.prog 24 #[.string ⟨s.toArray⟩, .int .i64 many, .int .i64 wd] w fun e w' => ∃ A cap, e = .returned (.tuple #[.slice A l.length cap, .int .i64 er]) ∧ Rd w' A (u64s l) ∧ Ext w w' := by
  have h1 := hyRead_any ⟨s.toArray⟩ many wd w
  unfold NumsOut at h1
  rw [show (⟨s.toArray⟩ : ByteArray).data.toList = s from rfl, h] at h1; exact h1
set_option maxHeartbeats 1000000 in
theorem hybridBegun_any (w : World) : Calls Try.prog 23 #[] w fun e w' => e = .returned (.bool true) ∧ Ext w w' := by
  have H1 := hid (fun A n cap w hn hr hcap hnl => hyWrite_of _ _ _ A n cap 3 w hn hr hcap (by decide) hnl Hyb.wrt_a)
  have H2 := hid (fun w => hyRead_of _ _ _ w _ _ Hyb.rdl_a)
  have H3 := hid (fun w => hyRead_of _ _ _ w _ _ Hyb.rdl_b)
  have H4 := hid (fun w => hyRead_of _ _ _ w _ _ Hyb.rdl_c)
  have H5 := hid (fun w => hyRead_of _ _ _ w _ _ Hyb.rdl_d)
  go_enter Try.func23, Try.ntmps23
  go_wp2_with fail
  refine Calls.mono (H1.out _ 18 _ _ rfl (rd_lit rfl rfl) (by decide) (by decide)) ?_
  rintro e w1 ⟨rfl, hx⟩
  have X1 := hid ((ext_refl w).new (.cells #[.int .u64 1, .int .u64 2, .int .u64 3, .int .u64 4, .int .u64 5, .int .u64 6, .int .u64 7, .int .u64 0, .int .u64 3, .int .u64 3, .int .u64 3, .int .u64 3, .int .u64 3, .int .u64 3, .int .u64 3, .int .u64 3, .int .u64 3, .int .u64 1] 33))
  have HN := hid ((show Rd _ (some ⟨w.heap.size, 0, none⟩) (u64s [1, 2, 3, 4, 5, 6, 7, 0, 3, 3, 3, 3, 3, 3, 3, 3, 3, 1]) from rd_lit rfl rfl).keep hx)
  replace X1 := hid (X1.out.then hx)
  clear hx
  go_wp2_with fail
  refine Calls.mono (H2.out _) ?_
  rintro e w2 ⟨A2, c2, rfl, hrd, hx⟩
  replace HN := hid (HN.out.keep hx)
  have HR := hid hrd
  replace X1 := hid (X1.out.then hx)
  clear hx hrd
  go_wp2_with fail
  refine Calls.mono (H3.out _) ?_
  rintro e w3 ⟨A3, c3, rfl, _, hx⟩
  replace HN := hid (HN.out.keep hx)
  replace HR := hid (HR.out.keep hx)
  replace X1 := hid (X1.out.then hx)
  clear hx
  go_wp2_with fail
  refine Calls.mono (H4.out _) ?_
  rintro e w4 ⟨A4, c4, rfl, _, hx⟩
  replace HN := hid (HN.out.keep hx)
  replace HR := hid (HR.out.keep hx)
  replace X1 := hid (X1.out.then hx)
  clear hx
  go_wp2_with fail
  refine Calls.mono (H5.out _) ?_
  rintro e w5 ⟨A5, c5, rfl, _, hx⟩
  replace HN := hid (HN.out.keep hx)
  replace HR := hid (HR.out.keep hx)
  replace X1 := hid (X1.out.then hx)
  clear hx
  go_wp2_with fail
  refine Calls.mono (sameNums_self _ _ _ 18 _ _ _ rfl HR.out HN.out (by decide)) ?_
  rintro e w6 ⟨rfl, hx⟩
  go_wp2
  go_returns
  exact ⟨rfl, X1.out.then hx⟩
set_option maxHeartbeats 1000000 in
theorem hybridTells_walk (l : List Nat) (A : Option Addr) (n cap : Nat) (wd : Int) (w : World) (hn : l.length = n) (hr : Rd w A (u64s l)) (hcap : n ≤ cap) (hl : ∀ x ∈ l, x < 18446744073709551616) (hnl : n ≤ 9223372036854775806) :
    Calls Try.prog 3 #[.slice A n cap, .int .i64 wd] w fun e w' => e = .returned (.bool true) ∧ Ext w w' := by
  have H1 := hid (hyWrite_any l A n cap wd w hn hr hcap hl hnl)
  have H2 := hid (fun wx (hx : Ext w wx) => packOf_any l A n cap wd wx hn (hr.keep hx) hl hnl)
  by_cases h0 : (Bits.pk l wd).2 = 0
  · obtain ⟨c1, c2, c3, c4, c5⟩ := Bits.pk_ok h0 hl
    have hw := Hyb.wrt_ok h0
    obtain ⟨k, rfl⟩ := Int.eq_ofNat_of_zero_le c1
    rw [Int.toNat_natCast] at c4 c5 hw
    have H3 := hid (fun wx (hx : Ext w wx) => hybridBytes_any l A n cap k wx hn (hr.keep hx) hcap (by omega) c4 (by omega))
    rw [hw] at H1
    rw [c5] at H2
    obtain ⟨V, hV⟩ : ∃ V : ByteArray, V = ⟨(Hyb.raw l k).toArray⟩ := ⟨_, rfl⟩
    obtain ⟨Q, hQ⟩ : ∃ Q : ByteArray, Q = ⟨(Bits.packed l k).toArray⟩ := ⟨_, rfl⟩
    rw [← hV] at H1 H3
    rw [← hQ] at H2
    clear hV hQ hr hl hn hcap hnl h0 c1 c2 c3 c4 c5 hw
    go_enter Try.func3, Try.ntmps3
    go_wp2_with fail
    refine Calls.mono H1.out ?_
    rintro e w1 ⟨rfl, b1⟩
    have X1 := hid b1
    clear b1
    go_wp2_with fail
    refine Calls.mono (H2.out _ X1.out) ?_
    rintro e w2 ⟨rfl, hx⟩
    replace X1 := hid (X1.out.then hx)
    clear hx
    go_wp2_with fail
    refine Calls.mono (H3.out _ X1.out) ?_
    rintro e w3 ⟨rfl, hx⟩
    replace X1 := hid (X1.out.then hx)
    clear hx
    go_wp2_with fail
    refine Calls.mono (hybridBegun_any _) ?_
    rintro e w4 ⟨rfl, hx⟩
    replace X1 := hid (X1.out.then hx)
    clear hx
    go_wp2
    go_returns
    exact ⟨rfl, X1.out⟩
  · have hw := Hyb.wrt_bad h0
    have hp := Bits.pk_bad h0
    rw [hw] at H1
    rw [hp] at H2
    obtain ⟨er, he⟩ : ∃ er, er = (Bits.pk l wd).2 := ⟨_, rfl⟩
    rw [← he] at H1 H2 h0
    have h3 : ((er : Int) != 0) = true := by rw [bne_iff_ne]; omega
    have h4 : ((er : Int) == 0) = false := by rw [beq_eq_false_iff_ne]; omega
    clear he hw hp hr hl hn hcap hnl h0
    go_enter Try.func3, Try.ntmps3
    go_wp2_with fail
    refine Calls.mono H1.out ?_
    rintro e w1 ⟨rfl, b1⟩
    have X1 := hid b1
    clear b1
    go_wp2_with fail
    refine Calls.mono (H2.out _ X1.out) ?_
    rintro e w2 ⟨rfl, hx⟩
    replace X1 := hid (X1.out.then hx)
    clear hx
    go_wp2_with fail
    refine Calls.mono (hybridBegun_any _) ?_
    rintro e w4 ⟨rfl, hx⟩
    replace X1 := hid (X1.out.then hx)
    clear hx
    go_wp2
    go_returns
    exact ⟨rfl, X1.out⟩
set_option maxHeartbeats 1000000 in
theorem hybridReads_walk (s : ByteArray) (many wd : Int) (w : World) (hz : s.size ≤ 281474976710656) :
    Calls Try.prog 4 #[.string s, .int .i64 many, .int .i64 wd] w fun e w' => e = .returned (.bool true) ∧ Ext w w' := by
  have H1 := hid (hyRead_any s many wd w)
  have H2 := hid (fun wx => hybridOf_any s many wd wx hz)
  have HL := hid (Hyb.rdl_len s.data.toList many wd)
  obtain ⟨L, er, hr⟩ : ∃ L er, Hyb.rdl s.data.toList many wd = (L, er) := ⟨_, _, rfl⟩
  unfold NumsOut at H1 H2
  rw [hr] at H1 H2 HL
  simp only at H1 H2 HL
  obtain ⟨n, hn⟩ : ∃ n, n = L.length := ⟨_, rfl⟩
  rw [← hn] at H1 H2 HL
  have HN := hid hn
  have hb : ((er : Int) == (er : Int)) = true := by simp
  clear hr hn
  go_enter Try.func4, Try.ntmps4
  go_wp2_with fail
  refine Calls.mono H1.out ?_
  rintro e w1 ⟨A, c, rfl, hrd, hx⟩
  have HR := hid hrd
  have X1 := hid hx
  clear hrd hx
  go_wp2_with fail
  refine Calls.mono (H2.out _) ?_
  rintro e w2 ⟨B, c2, rfl, hrd, hx⟩
  replace HR := hid (HR.out.keep hx)
  replace X1 := hid (X1.out.then hx)
  have HR2 := hid hrd
  clear hrd hx
  go_wp2_with fail
  refine Calls.mono (hybridBegun_any _) ?_
  rintro e w3 ⟨rfl, hx⟩
  replace HR := hid (HR.out.keep hx)
  replace HR2 := hid (HR2.out.keep hx)
  replace X1 := hid (X1.out.then hx)
  clear hx
  go_wp2_with fail
  refine Calls.mono (sameNums_self L _ _ n _ _ _ HN.out.symm HR.out HR2.out (by have := HL.out; omega)) ?_
  rintro e w4 ⟨rfl, hx⟩
  replace X1 := hid (X1.out.then hx)
  clear hx
  go_wp2
  go_returns
  exact ⟨rfl, X1.out⟩
set_option maxHeartbeats 1000000 in
theorem hybridBack_walk (l : List Nat) (A : Option Addr) (n cap : Nat) (wd : Int) (w : World) (hn : l.length = n) (hr : Rd w A (u64s l)) (hcap : n ≤ cap) (hl : ∀ x ∈ l, x < 18446744073709551616) (hnl : n ≤ 9223372036854775806) :
    Calls Try.prog 5 #[.slice A n cap, .int .i64 wd] w fun e w' => e = .returned (.bool true) ∧ Ext w w' := by
  have H1 := hid (hyWrite_any l A n cap wd w hn hr hcap hl hnl)
  by_cases h0 : (Bits.pk l wd).2 = 0
  · obtain ⟨c1, c2, c3, c4, c5⟩ := Bits.pk_ok h0 hl
    have hw := Hyb.wrt_ok h0
    obtain ⟨k, rfl⟩ := Int.eq_ofNat_of_zero_le c1
    rw [Int.toNat_natCast] at c4 c5 hw
    have hb := Hyb.rdl_raw (l := l) (k := k) (by omega) c3 c4 []
    rw [List.append_nil, if_pos rfl, hn] at hb
    have H2 := hid (fun wx => hyRead_of _ _ _ wx _ _ hb)
    rw [hw] at H1
    obtain ⟨V, hV⟩ : ∃ V : ByteArray, V = ⟨(Hyb.raw l k).toArray⟩ := ⟨_, rfl⟩
    rw [← hV] at H1 H2
    rw [hn] at H2
    have HN := hid hn
    have HR := hid hr
    have hnI : (n : Int) ≤ 64 := by omega
    clear hV hr hl hn hcap hnl h0 c1 c2 c3 c4 c5 hw hb
    go_enter Try.func5, Try.ntmps5
    go_wp2_with fail
    refine Calls.mono H1.out ?_
    rintro e w1 ⟨rfl, b1⟩
    have X1 := hid b1
    clear b1
    go_wp2_with fail
    refine Calls.mono (hybridBegun_any _) ?_
    rintro e w4 ⟨rfl, hx⟩
    replace X1 := hid (X1.out.then hx)
    clear hx
    go_wp2_with fail
    refine Calls.mono (H2.out _) ?_
    rintro e w2 ⟨B, c2, rfl, hrd, hx⟩
    replace X1 := hid (X1.out.then hx)
    have HR2 := hid hrd
    clear hrd hx
    go_wp2_with fail
    refine Calls.mono (sameNums_self l _ _ n _ _ _ HN.out HR2.out (HR.out.keep X1.out) (by omega)) ?_
    rintro e w5 ⟨rfl, hx⟩
    replace X1 := hid (X1.out.then hx)
    clear hx
    go_wp2
    go_returns
    exact ⟨rfl, X1.out⟩
  · have hw := Hyb.wrt_bad h0
    rw [hw] at H1
    obtain ⟨er, he⟩ : ∃ er, er = (Bits.pk l wd).2 := ⟨_, rfl⟩
    rw [← he] at H1 h0
    have h3 : ((er : Int) != 0) = true := by rw [bne_iff_ne]; omega
    have h4 : ((er : Int) == 0) = false := by rw [beq_eq_false_iff_ne]; omega
    clear he hw hr hl hn hcap hnl h0
    go_enter Try.func5, Try.ntmps5
    go_wp2_with fail
    refine Calls.mono H1.out ?_
    rintro e w1 ⟨rfl, b1⟩
    have X1 := hid b1
    clear b1
    go_wp2_with fail
    refine Calls.mono (hybridBegun_any _) ?_
    rintro e w4 ⟨rfl, hx⟩
    replace X1 := hid (X1.out.then hx)
    clear hx
    go_wp2
    go_returns
    exact ⟨rfl, X1.out⟩
theorem byteText_any (n : Nat) (w : World) (hn : n < 256) : Calls Try.prog 29 #[.int .u8 n] w fun e w' => e = .returned (.string ⟨#[UInt8.ofNat n]⟩) ∧ Ext w w' := by
  have hs := run_str1 (P := Try.prog) (src := 65) (dst := 9) (e := 5) Try.underlying65 Try.underlying5 Try.underlying9 n hn w
  clear hn
  go_enter Try.func29, Try.ntmps29
  go_wp2
  go_returns
  exact ⟨rfl, Ext.new (ext_refl _) _⟩
set_option maxHeartbeats 1000000 in
theorem hybridCut_walk (l : List Nat) (A : Option Addr) (n cap : Nat) (wd j : Int) (m : Nat) (w : World) (hn : l.length = n) (hr : Rd w A (u64s l)) (hcap : n ≤ cap) (hl : ∀ x ∈ l, x < 18446744073709551616) (hnl : n ≤ 9223372036854775806) (hm : m < 256) :
    Calls Try.prog 8 #[.slice A n cap, .int .i64 wd, .int .i64 j, .int .u8 m] w fun e w' => e = .returned (.bool true) ∧ Ext w w' := by
  have H1 := hid (hyWrite_any l A n cap wd w hn hr hcap hl hnl)
  have HB := hid (fun wx => byteText_any m wx hm)
  by_cases h0 : (Bits.pk l wd).2 = 0
  · obtain ⟨c1, c2, c3, c4, c5⟩ := Bits.pk_ok h0 hl
    have hw := Hyb.wrt_ok h0
    obtain ⟨k, rfl⟩ := Int.eq_ofNat_of_zero_le c1
    rw [Int.toNat_natCast] at c4 c5 hw
    have hb := Hyb.rdl_raw (l := l) (k := k) (by omega) c3 c4 [UInt8.ofNat m]
    rw [if_neg (by simp), hn] at hb
    have H2 := hid (fun wx => hyRead_of _ _ _ wx _ _ hb)
    have hcut := fun i (hi : i < (Hyb.raw l k).length) => Hyb.rdl_cut (l := l) (k := k) (j := i) (by omega) c3 c4 hi
    rw [hn] at hcut
    have H3 := hid (fun i (hi : i < (Hyb.raw l k).length) wx => hyRead_of _ _ _ wx _ _ (hcut i hi))
    rw [hw] at H1
    have hlen := Hyb.raw_len l k (by omega) c3
    have hsz := Nat.mul_le_mul c3 (show k ≤ 64 by omega)
    obtain ⟨V, hV⟩ : ∃ V : ByteArray, V = ⟨(Hyb.raw l k).toArray⟩ := ⟨_, rfl⟩
    obtain ⟨MB, hMB⟩ : ∃ MB : ByteArray, MB = ⟨#[UInt8.ofNat m]⟩ := ⟨_, rfl⟩
    have hVs : V.size = (Hyb.raw l k).length := by rw [hV, str_size]
    have hVI : (V.size : Int) ≤ 1000 := by rw [hVs]; unfold Bits.size at hlen; omega
    have hMs : MB.size = 1 := by rw [hMB]; rfl
    have hcat : (⟨(Hyb.raw l k ++ [UInt8.ofNat m]).toArray⟩ : ByteArray) = V ++ MB := by rw [hV, hMB]; exact (str_app _ _).symm
    have HVD := hid (show V.data.toList = Hyb.raw l k by rw [hV])
    rw [hcat] at H2
    rw [← hV] at H1
    rw [← hMB] at HB
    simp only [← hVs] at H3
    rw [← HVD.out] at H3
    have HN := hid hn
    have hnI : (n : Int) ≤ 64 := by omega
    clear hV hMB hr hl hn hcap hnl h0 c1 c2 c3 c4 c5 hw hb hcut hlen hsz hVs hcat hm HVD
    by_cases hj : 0 ≤ j ∧ j < (V.size : Int)
    · obtain ⟨hj0, hj1⟩ := hj
      obtain ⟨i, rfl⟩ := Int.eq_ofNat_of_zero_le hj0
      have H4 := hid (fun wx => H3.out i (by omega) wx)
      have hT := fun wx : World => run_to (P := Try.prog) (w := wx) Try.underlying9 V .i64 i (by omega)
      obtain ⟨VT, hVT⟩ : ∃ VT : ByteArray, VT = ⟨(V.data.toList.take i).toArray⟩ := ⟨_, rfl⟩
      rw [← hVT] at H4 hT
      clear H3 hVT
      go_enter Try.func8, Try.ntmps8
      go_wp2_with fail
      refine Calls.mono H1.out ?_
      rintro e w1 ⟨rfl, b1⟩
      have X1 := hid b1
      clear b1
      go_wp2_with fail
      refine Calls.mono (hybridBegun_any _) ?_
      rintro e w4 ⟨rfl, hx⟩
      replace X1 := hid (X1.out.then hx)
      clear hx
      go_wp2_with fail
      refine Calls.mono (HB.out _) ?_
      rintro e w5 ⟨rfl, hx⟩
      replace X1 := hid (X1.out.then hx)
      clear hx
      go_wp2_with fail
      refine Calls.mono (H2.out _) ?_
      rintro e w2 ⟨B, c2, rfl, _, hx⟩
      replace X1 := hid (X1.out.then hx)
      clear hx
      go_wp2_with fail
      refine Calls.mono (H4.out _) ?_
      rintro e w2 ⟨B2, c3, rfl, _, hx⟩
      replace X1 := hid (X1.out.then hx)
      clear hx
      go_wp2
      go_returns
      exact ⟨rfl, X1.out⟩
    · have hj2 : j < 0 ∨ (V.size : Int) ≤ j := by omega
      clear H3 hj
      rcases hj2 with hj | hj
      all_goals
        go_enter Try.func8, Try.ntmps8
        go_wp2_with fail
        refine Calls.mono H1.out ?_
        rintro e w1 ⟨rfl, b1⟩
        have X1 := hid b1
        clear b1
        go_wp2_with fail
        refine Calls.mono (hybridBegun_any _) ?_
        rintro e w4 ⟨rfl, hx⟩
        replace X1 := hid (X1.out.then hx)
        clear hx
        go_wp2_with fail
        refine Calls.mono (HB.out _) ?_
        rintro e w5 ⟨rfl, hx⟩
        replace X1 := hid (X1.out.then hx)
        clear hx
        go_wp2_with fail
        refine Calls.mono (H2.out _) ?_
        rintro e w2 ⟨B, c2, rfl, _, hx⟩
        replace X1 := hid (X1.out.then hx)
        clear hx
        go_wp2
        go_returns
        exact ⟨rfl, X1.out⟩
  · have hw := Hyb.wrt_bad h0
    rw [hw] at H1
    obtain ⟨er, he⟩ : ∃ er, er = (Bits.pk l wd).2 := ⟨_, rfl⟩
    rw [← he] at H1 h0
    have h3 : ((er : Int) != 0) = true := by rw [bne_iff_ne]; omega
    have h4 : ((er : Int) == 0) = false := by rw [beq_eq_false_iff_ne]; omega
    clear he hw hr hl hn hcap hnl h0 hm
    go_enter Try.func8, Try.ntmps8
    go_wp2_with fail
    refine Calls.mono H1.out ?_
    rintro e w1 ⟨rfl, b1⟩
    have X1 := hid b1
    clear b1
    go_wp2_with fail
    refine Calls.mono (hybridBegun_any _) ?_
    rintro e w4 ⟨rfl, hx⟩
    replace X1 := hid (X1.out.then hx)
    clear hx
    go_wp2
    go_returns
    exact ⟨rfl, X1.out⟩
end Go.Proofs.Ytdblegdbfdhepaa
