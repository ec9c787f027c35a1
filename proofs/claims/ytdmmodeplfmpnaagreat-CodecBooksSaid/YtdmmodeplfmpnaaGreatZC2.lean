/- Texts of this claim, put together: walks and plain laws. -/
import Derived.Test.YtdmmodeplfmpnaaGreatZC1
import Derived.Test.YtdmmodeplfmpnaaGreatZB1
import Derived.Test.YtdmmodeplfmpnaaGreatZH2
import Derived.Test.YtdmmodeplfmpnaaGreatZE1
import Derived.Test.YtdmmodeplfmpnaaGreatZP2
import Derived.Test.YtdmmodeplfmpnaaGreatZV1
import Derived.Test.YtdmmodeplfmpnaaGreatZF1
import Derived.Test.YtdmmodeplfmpnaaGreatZD1
section
namespace Hy.Cod
open Go
theorem chk_bd (s : Tx) (many w : Int) : Bits.chk s many w ≤ 3 := by rcases Bits.chk_cases s many w with h | h | h | h <;> omega
end Hy.Cod
namespace Go.Proofs.YtdmmodeplfmpnaaGreat
open Go.RowKit Hy
set_option maxHeartbeats 2000000 in
theorem numbersOf_1 (s : ByteArray) (many : Int) (w : World) (hs : s.size ≤ 281474976710656) (h0 : 0 ≤ many) (h64 : many ≤ 64) (c : UInt8) (t : List UInt8) (hd : s.data.toList = c :: t) (hc : c.toNat = 1) :
    Calls Tryz.prog 19 #[.string s, .int .i64 many] w (NumsOut (Cod.rnm s.data.toList many).1 (Cod.rnm s.data.toList many).2 w) := by
  have hsl : s.size = t.length + 1 := by have := congrArg List.length hd; rw [Array.length_toList] at this; simpa using this
  have hT := fun wx : World => run_from (P := Tryz.prog) (w := wx) Tryz.underlying9 s .i64 1 (by omega)
  have hX := fun wx : World => run_ix0 (P := Tryz.prog) (w := wx) Tryz.underlying9 s .i64 c t hd
  have h11 : ((1 : Nat) : Int) = 1 := rfl
  simp only [hd, List.drop_succ_cons, List.drop_zero, h11] at hT
  rw [hd, Cod.rnm_cons h0 h64, hc]
  rw [hc] at hX
  simp (config := {decide := true}) only [if_true, if_false]
  have hszI : ((s.size : Int) == 0) = false := by rw [beq_eq_false_iff_ne]; omega
  cases t with
  | nil =>
    rw [Cod.wde_nil]
    obtain ⟨TT, hTT⟩ : ∃ S : ByteArray, S = ⟨([] : List UInt8).toArray⟩ := ⟨_, rfl⟩
    rw [← hTT] at hT
    have hz : TT.size = 0 := by rw [hTT]; rfl
    clear hTT hd hsl hs hc
    go_enter Tryz.func19, Tryz.ntmps19
    go_wp2
    go_returns
    exact ⟨none, 0, rfl, fun h => by simp [u64s] at h, ext_refl _⟩
  | cons d u =>
    obtain ⟨TT, hTT⟩ : ∃ S : ByteArray, S = ⟨(d :: u).toArray⟩ := ⟨_, rfl⟩
    rw [← hTT] at hT
    have hdd : TT.data.toList = d :: u := by rw [hTT]
    have hz : TT.size = u.length + 1 := by rw [hTT, str_size]; rfl
    have hT2 := fun wx : World => run_from (P := Tryz.prog) (w := wx) Tryz.underlying9 TT .i64 1 (by omega)
    have hX2 := fun wx : World => run_ix0 (P := Tryz.prog) (w := wx) Tryz.underlying9 TT .i64 d u hdd
    simp only [hdd, List.drop_succ_cons, List.drop_zero, h11] at hT2
    have hzI : ((TT.size : Int) == 0) = false := by rw [beq_eq_false_iff_ne]; omega
    obtain ⟨UU, hUU⟩ : ∃ S : ByteArray, S = ⟨u.toArray⟩ := ⟨_, rfl⟩
    have huu : UU.data.toList = u := by rw [hUU]
    have hus : UU.size ≤ 281474976710656 := by rw [hUU, str_size]; simp only [List.length_cons] at hsl; omega
    rw [← hUU] at hT2
    have HUP := hid (fun wx => unpackOf_any UU many d.toNat wx hus)
    have HHY := hid (fun wx => hybridOf_any UU many d.toNat wx hus)
    rw [huu] at HUP HHY
    have HUE := hid (Cod.chk_bd u many d.toNat)
    have HUL := hid (Cod.rpk_lt many u d.toNat).2
    have HRP := hid (show Cod.rpk many u d.toNat = (Bits.up u many d.toNat, Bits.chk u many d.toNat) from rfl)
    have HRH := hid (show Cod.rhy many u d.toNat = Hyb.rdl u many d.toNat from rfl)
    have HLT := hid (Cod.rpk_lt many u d.toNat).1
    have hlen := (Cod.rpk_lt many u d.toNat).2
    have hc8 : d.toNat < 256 := d.toNat_lt
    have HB := hid (@Cod.wde_bad (Cod.rpk many) d u)
    have HF := hid (@Cod.wde_form (Cod.rpk many) d u)
    have HO := hid (@Cod.wde_ok (Cod.rpk many) d u)
    obtain ⟨R, hR⟩ : ∃ R, R = Cod.wde (Cod.rpk many) (d :: u) := ⟨_, rfl⟩
    rw [← hR] at HB HF HO ⊢
    unfold NumsOut at HUP HHY
    rw [HRP.out] at HUL HB HF HO HLT hlen
    simp only at HUL HB HF HO HLT hlen
    obtain ⟨L1, hL1⟩ : ∃ L1, L1 = Bits.up u many d.toNat := ⟨_, rfl⟩
    obtain ⟨e1, he1⟩ : ∃ e1, e1 = Bits.chk u many d.toNat := ⟨_, rfl⟩
    rw [← hL1] at HUP HUL HO HF HLT hlen
    rw [← he1] at HUP HUE HB HF HO
    clear hTT hdd hUU huu hR hd hsl hL1 he1 hus hz HRP hs hc
    generalize d.toNat = z at *
    have hzI2 : (z : Int) ≤ 255 := by omega
    clear hc8
    clear HHY HRH
    obtain ⟨m1, hm1⟩ : ∃ m, m = L1.length := ⟨_, rfl⟩
    rw [← hm1] at HUP hlen HUL
    have HM1 := hid hm1
    have hm1I : (m1 : Int) ≤ 64 := by have := HUL.out; omega
    clear hm1
    by_cases he : e1 = 0
    · subst he
      have HWA := hid (fun A c wx h => widthOf_any L1 A m1 c wx HM1.out.symm h HLT.out (by omega))
      obtain ⟨wi, hwi⟩ : ∃ wi, wi = Bits.width L1 := ⟨_, rfl⟩
      rw [← hwi] at HWA HF HO
      by_cases hw : wi = z
      · have HRR := hid (HO.out rfl hw)
        subst hw
        clear HB HF HO hlen hwi HUL
        go_enter Tryz.func19, Tryz.ntmps19
        go_wp2_with fail
        refine Calls.mono (HUP.out _) ?_
        rintro e w1 ⟨A, cp, rfl, hrd, hx⟩
        have HRD := hid hrd
        have HX := hid hx
        clear hrd hx
        go_wp2_with fail
        refine Calls.mono (HWA.out _ _ _ HRD.out) ?_
        rintro e _ ⟨rfl, rfl⟩
        go_wp2
        go_returns
        rw [HRR.out]
        exact ⟨A, cp, by rw [← HM1.out]; rfl, HRD.out, HX.out⟩
      · have HRR := hid (HF.out rfl hw)
        have h3 : ((wi : Int) != (z : Int)) = true := by rw [bne_iff_ne]; omega
        have h4 : ((wi : Int) == (z : Int)) = false := by rw [beq_eq_false_iff_ne]; omega
        clear HB HF HO hlen hwi hw HUL
        go_enter Tryz.func19, Tryz.ntmps19
        go_wp2_with fail
        refine Calls.mono (HUP.out _) ?_
        rintro e w1 ⟨A, cp, rfl, hrd, hx⟩
        have HRD := hid hrd
        have HX := hid hx
        clear hrd hx
        go_wp2_with fail
        refine Calls.mono (HWA.out _ _ _ HRD.out) ?_
        rintro e _ ⟨rfl, rfl⟩
        go_wp2
        go_returns
        rw [HRR.out]
        exact ⟨none, 0, rfl, fun h => by simp [u64s] at h, HX.out⟩
    · have HRR := hid (HB.out he)
      have h3 : ((e1 : Int) != 0) = true := by rw [bne_iff_ne]; omega
      have h4 : ((e1 : Int) == 0) = false := by rw [beq_eq_false_iff_ne]; omega
      clear HB HF HO hlen he HUL
      go_enter Tryz.func19, Tryz.ntmps19
      go_wp2_with fail
      refine Calls.mono (HUP.out _) ?_
      rintro e w1 ⟨A, cp, rfl, hrd, hx⟩
      have HX := hid hx
      clear hrd hx
      go_wp2
      go_returns
      rw [HRR.out]
      exact ⟨none, 0, rfl, fun h => by simp [u64s] at h, HX.out⟩
set_option maxHeartbeats 2000000 in
theorem numbersOf_2 (s : ByteArray) (many : Int) (w : World) (hs : s.size ≤ 281474976710656) (h0 : 0 ≤ many) (h64 : many ≤ 64) (c : UInt8) (t : List UInt8) (hd : s.data.toList = c :: t) (hc : c.toNat = 2) :
    Calls Tryz.prog 19 #[.string s, .int .i64 many] w (NumsOut (Cod.rnm s.data.toList many).1 (Cod.rnm s.data.toList many).2 w) := by
  have hsl : s.size = t.length + 1 := by have := congrArg List.length hd; rw [Array.length_toList] at this; simpa using this
  have hT := fun wx : World => run_from (P := Tryz.prog) (w := wx) Tryz.underlying9 s .i64 1 (by omega)
  have hX := fun wx : World => run_ix0 (P := Tryz.prog) (w := wx) Tryz.underlying9 s .i64 c t hd
  have h11 : ((1 : Nat) : Int) = 1 := rfl
  simp only [hd, List.drop_succ_cons, List.drop_zero, h11] at hT
  rw [hd, Cod.rnm_cons h0 h64, hc]
  rw [hc] at hX
  simp (config := {decide := true}) only [if_true, if_false]
  have hszI : ((s.size : Int) == 0) = false := by rw [beq_eq_false_iff_ne]; omega
  cases t with
  | nil =>
    rw [Cod.wde_nil]
    obtain ⟨TT, hTT⟩ : ∃ S : ByteArray, S = ⟨([] : List UInt8).toArray⟩ := ⟨_, rfl⟩
    rw [← hTT] at hT
    have hz : TT.size = 0 := by rw [hTT]; rfl
    clear hTT hd hsl hs hc
    go_enter Tryz.func19, Tryz.ntmps19
    go_wp2
    go_returns
    exact ⟨none, 0, rfl, fun h => by simp [u64s] at h, ext_refl _⟩
  | cons d u =>
    obtain ⟨TT, hTT⟩ : ∃ S : ByteArray, S = ⟨(d :: u).toArray⟩ := ⟨_, rfl⟩
    rw [← hTT] at hT
    have hdd : TT.data.toList = d :: u := by rw [hTT]
    have hz : TT.size = u.length + 1 := by rw [hTT, str_size]; rfl
    have hT2 := fun wx : World => run_from (P := Tryz.prog) (w := wx) Tryz.underlying9 TT .i64 1 (by omega)
    have hX2 := fun wx : World => run_ix0 (P := Tryz.prog) (w := wx) Tryz.underlying9 TT .i64 d u hdd
    simp only [hdd, List.drop_succ_cons, List.drop_zero, h11] at hT2
    have hzI : ((TT.size : Int) == 0) = false := by rw [beq_eq_false_iff_ne]; omega
    obtain ⟨UU, hUU⟩ : ∃ S : ByteArray, S = ⟨u.toArray⟩ := ⟨_, rfl⟩
    have huu : UU.data.toList = u := by rw [hUU]
    have hus : UU.size ≤ 281474976710656 := by rw [hUU, str_size]; simp only [List.length_cons] at hsl; omega
    rw [← hUU] at hT2
    have HUP := hid (fun wx => unpackOf_any UU many d.toNat wx hus)
    have HHY := hid (fun wx => hybridOf_any UU many d.toNat wx hus)
    rw [huu] at HUP HHY
    have HUE := hid (Cod.chk_bd u many d.toNat)
    have HUL := hid (Cod.rpk_lt many u d.toNat).2
    have HRP := hid (show Cod.rpk many u d.toNat = (Bits.up u many d.toNat, Bits.chk u many d.toNat) from rfl)
    have HRH := hid (show Cod.rhy many u d.toNat = Hyb.rdl u many d.toNat from rfl)
    have HLT := hid (Cod.rhy_lt many u d.toNat).1
    have hlen := (Cod.rhy_lt many u d.toNat).2
    have hc8 : d.toNat < 256 := d.toNat_lt
    have HB := hid (@Cod.wde_bad (Cod.rhy many) d u)
    have HF := hid (@Cod.wde_form (Cod.rhy many) d u)
    have HO := hid (@Cod.wde_ok (Cod.rhy many) d u)
    obtain ⟨R, hR⟩ : ∃ R, R = Cod.wde (Cod.rhy many) (d :: u) := ⟨_, rfl⟩
    rw [← hR] at HB HF HO ⊢
    unfold NumsOut at HUP HHY
    rw [HRP.out] at HUL
    simp only at HUL
    obtain ⟨L1, hL1⟩ : ∃ L1, L1 = Bits.up u many d.toNat := ⟨_, rfl⟩
    obtain ⟨e1, he1⟩ : ∃ e1, e1 = Bits.chk u many d.toNat := ⟨_, rfl⟩
    rw [← hL1] at HUP HUL
    rw [← he1] at HUP HUE 
    rw [HRH.out] at HB HF HO HLT hlen
    obtain ⟨L, er, hl⟩ : ∃ L er, Hyb.rdl u many d.toNat = (L, er) := ⟨_, _, rfl⟩
    rw [hl] at HHY HLT hlen HB HF HO
    simp only at HHY HLT hlen HB HF HO
    clear hl HRH
    clear hTT hdd hUU huu hR hd hsl hL1 he1 hus hz HRP hs hc
    generalize d.toNat = z at *
    have hzI2 : (z : Int) ≤ 255 := by omega
    clear hc8
    obtain ⟨m1, hm1⟩ : ∃ m, m = L1.length := ⟨_, rfl⟩
    rw [← hm1] at HUP HUL
    have HM1 := hid hm1
    have hm1I : (m1 : Int) ≤ 64 := by have := HUL.out; omega
    clear hm1
    obtain ⟨m, hm⟩ : ∃ m, m = L.length := ⟨_, rfl⟩
    rw [← hm] at HHY hlen
    have HM := hid hm
    have hmI : (m : Int) ≤ 64 := by omega
    clear hm
    by_cases he : er = 0
    · subst he
      have HWA := hid (fun A c wx h => widthOf_any L A m c wx HM.out.symm h HLT.out (by omega))
      obtain ⟨wi, hwi⟩ : ∃ wi, wi = Bits.width L := ⟨_, rfl⟩
      rw [← hwi] at HWA HF HO
      by_cases hw : wi = z
      · have HRR := hid (HO.out rfl hw)
        subst hw
        clear HB HF HO hlen hwi HUL
        go_enter Tryz.func19, Tryz.ntmps19
        go_wp2_with fail
        refine Calls.mono (HUP.out _) ?_
        rintro e w1 ⟨A, cp, rfl, hrd, hx⟩
        have HX0 := hid hx
        clear hrd hx
        go_wp2_with fail
        refine Calls.mono (HHY.out _) ?_
        rintro e w2 ⟨B, cq, rfl, hrd, hx⟩
        have HRD := hid hrd
        have HX := hid (HX0.out.then hx)
        clear hrd hx HX0
        go_wp2_with fail
        refine Calls.mono (HWA.out _ _ _ HRD.out) ?_
        rintro e _ ⟨rfl, rfl⟩
        go_wp2
        go_returns
        rw [HRR.out]
        exact ⟨B, cq, by rw [← HM.out]; rfl, HRD.out, HX.out⟩
      · have HRR := hid (HF.out rfl hw)
        have h3 : ((wi : Int) != (z : Int)) = true := by rw [bne_iff_ne]; omega
        have h4 : ((wi : Int) == (z : Int)) = false := by rw [beq_eq_false_iff_ne]; omega
        clear HB HF HO hlen hwi hw HUL
        go_enter Tryz.func19, Tryz.ntmps19
        go_wp2_with fail
        refine Calls.mono (HUP.out _) ?_
        rintro e w1 ⟨A, cp, rfl, hrd, hx⟩
        have HX0 := hid hx
        clear hrd hx
        go_wp2_with fail
        refine Calls.mono (HHY.out _) ?_
        rintro e w2 ⟨B, cq, rfl, hrd, hx⟩
        have HRD := hid hrd
        have HX := hid (HX0.out.then hx)
        clear hrd hx HX0
        go_wp2_with fail
        refine Calls.mono (HWA.out _ _ _ HRD.out) ?_
        rintro e _ ⟨rfl, rfl⟩
        go_wp2
        go_returns
        rw [HRR.out]
        exact ⟨none, 0, rfl, fun h => by simp [u64s] at h, HX.out⟩
    · have HRR := hid (HB.out he)
      have h3 : ((er : Int) != 0) = true := by rw [bne_iff_ne]; omega
      have h4 : ((er : Int) == 0) = false := by rw [beq_eq_false_iff_ne]; omega
      clear HB HF HO hlen he HUL
      go_enter Tryz.func19, Tryz.ntmps19
      go_wp2_with fail
      refine Calls.mono (HUP.out _) ?_
      rintro e w1 ⟨A, cp, rfl, hrd, hx⟩
      have HX0 := hid hx
      clear hrd hx
      go_wp2_with fail
      refine Calls.mono (HHY.out _) ?_
      rintro e w2 ⟨B, cq, rfl, hrd, hx⟩
      have HX := hid (HX0.out.then hx)
      clear hrd hx HX0
      go_wp2
      go_returns
      rw [HRR.out]
      exact ⟨none, 0, rfl, fun h => by simp [u64s] at h, HX.out⟩
set_option maxHeartbeats 1000000 in
theorem numbersOf_any (s : ByteArray) (many : Int) (w : World) (hs : s.size ≤ 281474976710656) :
    Calls Tryz.prog 19 #[.string s, .int .i64 many] w (NumsOut (Cod.rnm s.data.toList many).1 (Cod.rnm s.data.toList many).2 w) := by
  by_cases h1 : many < 0
  · rw [Cod.rnm_neg h1]
    go_enter Tryz.func19, Tryz.ntmps19
    go_wp2
    go_returns
    exact ⟨none, 0, rfl, fun h => by simp [u64s] at h, ext_refl _⟩
  by_cases h2 : 64 < many
  · rw [Cod.rnm_many h2]
    go_enter Tryz.func19, Tryz.ntmps19
    go_wp2
    go_returns
    exact ⟨none, 0, rfl, fun h => by simp [u64s] at h, ext_refl _⟩
  cases hd : s.data.toList with
  | nil =>
    rw [Cod.rnm_nil (by omega) (by omega)]
    obtain rfl : s = ⟨#[]⟩ := by
      apply ByteArray.ext; apply Array.ext'; rw [hd]
    clear hd
    go_enter Tryz.func19, Tryz.ntmps19
    go_wp2
    go_returns
    exact ⟨none, 0, rfl, fun h => by simp [u64s] at h, ext_refl _⟩
  | cons c t =>
    by_cases hk1 : c.toNat = 1
    · rw [← hd]; exact numbersOf_1 s many w hs (by omega) (by omega) c t hd hk1
    by_cases hk2 : c.toNat = 2
    · rw [← hd]; exact numbersOf_2 s many w hs (by omega) (by omega) c t hd hk2
    rw [Cod.rnm_cons (by omega) (by omega), if_neg hk1, if_neg hk2]
    have hsl : s.size = t.length + 1 := by have := congrArg List.length hd; rw [Array.length_toList] at this; simpa using this
    have hT := fun wx : World => run_from (P := Tryz.prog) (w := wx) Tryz.underlying9 s .i64 1 (by omega)
    have hX := fun wx : World => run_ix0 (P := Tryz.prog) (w := wx) Tryz.underlying9 s .i64 c t hd
    have h11 : ((1 : Nat) : Int) = 1 := rfl
    simp only [hd, List.drop_succ_cons, List.drop_zero, h11] at hT
    have e1 : s.toList.isEmpty = false := by
      have : s.toList = s.data.toList := toList_data s
      rw [this, hd]; rfl
    obtain ⟨TT, hTT⟩ : ∃ S : ByteArray, S = ⟨t.toArray⟩ := ⟨_, rfl⟩
    have htt : TT.data.toList = t := by rw [hTT]
    have hts : TT.size ≤ 281474976710656 := by rw [hTT, str_size]; omega
    have hszI : ((s.size : Int) == 0) = false := by rw [beq_eq_false_iff_ne]; omega
    simp only [← hTT] at hT
    clear hTT e1
    have hc8 : c.toNat < 256 := c.toNat_lt
    obtain h | h | h : c.toNat = 3 ∨ c.toNat = 4 ∨ ¬ (1 ≤ c.toNat ∧ c.toNat ≤ 4) := by omega
    · rw [if_pos h]
      rw [h] at hX
      clear hk1 hk2 hc8
      have HC := hid (fun wx => deltaOf_any TT many wx hts)
      rw [htt] at HC
      clear hs hd hsl hts htt h
      go_enter Tryz.func19, Tryz.ntmps19
      go_wp2_with fail
      refine Calls.mono (HC.out _) ?_
      rintro e w2 ⟨A, cp, rfl, hrd, hx2⟩
      have HRD := hid hrd
      have HX2 := hid hx2
      clear hrd hx2
      go_wp2
      go_returns
      exact ⟨A, cp, rfl, HRD.out, HX2.out⟩
    · rw [if_neg (by omega), if_pos h]
      rw [h] at hX
      clear hk1 hk2 hc8
      have HC := hid (fun wx => patchOf_any TT many wx hts)
      rw [htt] at HC
      clear hs hd hsl hts htt h
      go_enter Tryz.func19, Tryz.ntmps19
      go_wp2_with fail
      refine Calls.mono (HC.out _) ?_
      rintro e w2 ⟨A, cp, rfl, hrd, hx2⟩
      have HRD := hid hrd
      have HX2 := hid hx2
      clear hrd hx2
      go_wp2
      go_returns
      exact ⟨A, cp, rfl, HRD.out, HX2.out⟩
    · rw [if_neg (by omega), if_neg (by omega)]
      clear hs hd hsl hts htt
      generalize c.toNat = z at *
      have hq : ¬ (1 ≤ (z : Int) ∧ (z : Int) ≤ 4) := by omega
      have hzI : (z : Int) ≤ 255 := by omega
      rcases Nat.lt_or_ge z 1 with hz | hz
      · obtain rfl : z = 0 := by omega
        clear hq h hk1 hk2 hc8 hzI hz
        go_enter Tryz.func19, Tryz.ntmps19
        go_wp2
        go_returns
        exact ⟨none, 0, rfl, fun h => by simp [u64s] at h, ext_refl _⟩
      · have hz1 : ¬ (z : Int) < 1 := by omega
        have hz4 : (4 : Int) < (z : Int) := by omega
        have hd1 : decide ((z : Int) < 1) = false := decide_eq_false hz1
        clear hq h hk1 hk2 hc8 hz
        go_enter Tryz.func19, Tryz.ntmps19
        go_wp2
        go_returns
        exact ⟨none, 0, rfl, fun h => by simp [u64s] at h, ext_refl _⟩
end Go.Proofs.YtdmmodeplfmpnaaGreat
end
section
namespace Go.Proofs.YtdmmodeplfmpnaaGreat
open Go.RowKit Hy
theorem _root_.Hy.Cod.tgn (f : Nat → Cod.Tx) (k : Nat) : Cod.tg f k = UInt8.ofNat k :: f k := rfl
set_option maxHeartbeats 800000 in
theorem numberBytes_any (l : List Nat) (A : Option Addr) (n cap k : Nat) (w : World) (hn : l.length = n) (hr : Rd w A (u64s l)) (hcap : n ≤ cap) (hl : ∀ x ∈ l, x < 18446744073709551616) (hnl : n ≤ 64) (h1 : 1 ≤ k) (h4 : k ≤ 4) :
    Calls Tryz.prog 15 #[.slice A n cap, .int .i64 k] w fun e w' => e = .returned (.string ⟨(Cod.tg (Cod.nm l) k).toArray⟩) ∧ Ext w w' := by
  have HW := hid (widthOf_any l A n cap w hn hr hl (by omega))
  obtain ⟨h64, hfit⟩ := Cod.width_fit l hl
  obtain ⟨wb, hwb⟩ : ∃ wb, wb = Bits.width l := ⟨_, rfl⟩
  rw [← hwb] at HW h64 hfit
  have hwI : (wb : Int) ≤ 64 := by omega
  obtain rfl | rfl | rfl | rfl : k = 1 ∨ k = 2 ∨ k = 3 ∨ k = 4 := by omega
  all_goals clear h1 h4
  · rw [Cod.tgn]
    have HC := hid (fun wx (hx : Ext w wx) => packedOf_any l A n cap wb wx hn (hr.keep hx) hfit (by omega) h64)
    have hlen := Cod.nm_len l 1 (by omega) hl
    rw [Cod.nm1] at hlen ⊢
    obtain ⟨X2, hX2⟩ : ∃ S : ByteArray, S = ⟨#[UInt8.ofNat wb]⟩ := ⟨_, rfl⟩
    obtain ⟨X3, hX3⟩ : ∃ S : ByteArray, S = ⟨(Bits.packed l wb).toArray⟩ := ⟨_, rfl⟩
    rw [← hwb] at hlen ⊢
    have HVV := hid (show (⟨#[UInt8.ofNat 1]⟩ : ByteArray) ++ X2 ++ X3 = ⟨(UInt8.ofNat 1 :: UInt8.ofNat wb :: Bits.packed l wb).toArray⟩ by rw [hX2, hX3, str_cons]; exact str_app _ _)
    have hz2 : X2.size = 1 := by rw [hX2]; rfl
    have hz3 : X3.size ≤ 2000 := by rw [hX3, str_size]; simp only [List.length_cons] at hlen; omega
    have HOB := hid (fun wx => oneByte_any (wb : Int) wx (by omega) (by omega))
    rw [Int.toNat_natCast, ← hX2] at HOB
    rw [← hX3] at HC
    have HO1 := hid (fun wx => oneByte_any 1 wx (by decide) (by decide))
    have hz1 : (⟨#[UInt8.ofNat 1]⟩ : ByteArray).size = 1 := rfl
    rw [show ((1 : Int).toNat) = 1 from rfl] at HO1
    generalize (⟨#[UInt8.ofNat 1]⟩ : ByteArray) = X1 at *
    clear hX2 hX3 hlen hn hr hcap hl hnl hwb
    go_enter Tryz.func15, Tryz.ntmps15
    go_wp2_with fail
    refine Calls.mono HW.out ?_
    rintro e _ ⟨rfl, rfl⟩
    go_wp2_with fail
    refine Calls.mono (HO1.out _) ?_
    rintro e w1 ⟨rfl, hx⟩
    have Xp := hid hx
    clear hx
    go_wp2_with fail
    refine Calls.mono (HOB.out _) ?_
    rintro e w2 ⟨rfl, hx⟩
    replace Xp := hid (Xp.out.then hx)
    clear hx
    go_wp2_with fail
    refine Calls.mono (HC.out _ Xp.out) ?_
    rintro e w3 ⟨rfl, hx⟩
    replace Xp := hid (Xp.out.then hx)
    clear hx
    go_wp2
    go_returns
    exact ⟨by rw [← HVV.out]; rfl, Xp.out⟩
  · rw [Cod.tgn]
    have HC := hid (fun wx (hx : Ext w wx) => hybridBytes_any l A n cap wb wx hn (hr.keep hx) hcap (by omega) hfit h64)
    have hlen := Cod.nm_len l 2 (by omega) hl
    rw [Cod.nm2] at hlen ⊢
    obtain ⟨X2, hX2⟩ : ∃ S : ByteArray, S = ⟨#[UInt8.ofNat wb]⟩ := ⟨_, rfl⟩
    obtain ⟨X3, hX3⟩ : ∃ S : ByteArray, S = ⟨(Hyb.raw l wb).toArray⟩ := ⟨_, rfl⟩
    rw [← hwb] at hlen ⊢
    have HVV := hid (show (⟨#[UInt8.ofNat 2]⟩ : ByteArray) ++ X2 ++ X3 = ⟨(UInt8.ofNat 2 :: UInt8.ofNat wb :: Hyb.raw l wb).toArray⟩ by rw [hX2, hX3, str_cons]; exact str_app _ _)
    have hz2 : X2.size = 1 := by rw [hX2]; rfl
    have hz3 : X3.size ≤ 2000 := by rw [hX3, str_size]; simp only [List.length_cons] at hlen; omega
    have HOB := hid (fun wx => oneByte_any (wb : Int) wx (by omega) (by omega))
    rw [Int.toNat_natCast, ← hX2] at HOB
    rw [← hX3] at HC
    have HO1 := hid (fun wx => oneByte_any 2 wx (by decide) (by decide))
    have hz1 : (⟨#[UInt8.ofNat 2]⟩ : ByteArray).size = 1 := rfl
    rw [show ((2 : Int).toNat) = 2 from rfl] at HO1
    generalize (⟨#[UInt8.ofNat 2]⟩ : ByteArray) = X1 at *
    clear hX2 hX3 hlen hn hr hcap hl hnl hwb
    go_enter Tryz.func15, Tryz.ntmps15
    go_wp2_with fail
    refine Calls.mono HW.out ?_
    rintro e _ ⟨rfl, rfl⟩
    go_wp2_with fail
    refine Calls.mono (HO1.out _) ?_
    rintro e w1 ⟨rfl, hx⟩
    have Xp := hid hx
    clear hx
    go_wp2_with fail
    refine Calls.mono (HOB.out _) ?_
    rintro e w2 ⟨rfl, hx⟩
    replace Xp := hid (Xp.out.then hx)
    clear hx
    go_wp2_with fail
    refine Calls.mono (HC.out _ Xp.out) ?_
    rintro e w3 ⟨rfl, hx⟩
    replace Xp := hid (Xp.out.then hx)
    clear hx
    go_wp2
    go_returns
    exact ⟨by rw [← HVV.out]; rfl, Xp.out⟩
  · rw [Cod.tgn]
    have HC := hid (fun wx (hx : Ext w wx) => deltaBytes_any l A n cap wx hn (hr.keep hx) hl (by omega))
    have hlen := Cod.nm_len l 3 (by omega) hl
    rw [Cod.nm3] at hlen ⊢
    obtain ⟨X3, hX3⟩ : ∃ S : ByteArray, S = ⟨(Dlt.bys l).toArray⟩ := ⟨_, rfl⟩
    have HVV := hid (show (⟨#[UInt8.ofNat 3]⟩ : ByteArray) ++ X3 = ⟨(UInt8.ofNat 3 :: Dlt.bys l).toArray⟩ by rw [hX3, str_cons])
    have hz3 : X3.size ≤ 2000 := by rw [hX3, str_size]; exact hlen
    rw [← hX3] at HC
    have HO1 := hid (fun wx => oneByte_any 3 wx (by decide) (by decide))
    have hz1 : (⟨#[UInt8.ofNat 3]⟩ : ByteArray).size = 1 := rfl
    rw [show ((3 : Int).toNat) = 3 from rfl] at HO1
    generalize (⟨#[UInt8.ofNat 3]⟩ : ByteArray) = X1 at *
    clear hX3 hlen hn hr hcap hl hnl hwb
    go_enter Tryz.func15, Tryz.ntmps15
    go_wp2_with fail
    refine Calls.mono HW.out ?_
    rintro e _ ⟨rfl, rfl⟩
    go_wp2_with fail
    refine Calls.mono (HO1.out _) ?_
    rintro e w1 ⟨rfl, hx⟩
    have Xp := hid hx
    clear hx
    go_wp2_with fail
    refine Calls.mono (HC.out _ Xp.out) ?_
    rintro e w3 ⟨rfl, hx⟩
    replace Xp := hid (Xp.out.then hx)
    clear hx
    go_wp2
    go_returns
    exact ⟨by rw [← HVV.out]; rfl, Xp.out⟩
  · rw [Cod.tgn]
    have HC := hid (fun wx (hx : Ext w wx) => patchBytes_any l A n cap wx hn (hr.keep hx) hl hnl)
    have hlen := Cod.nm_len l 4 (by omega) hl
    rw [Cod.nm4] at hlen ⊢
    obtain ⟨X3, hX3⟩ : ∃ S : ByteArray, S = ⟨(Pat.bys l).toArray⟩ := ⟨_, rfl⟩
    have HVV := hid (show (⟨#[UInt8.ofNat 4]⟩ : ByteArray) ++ X3 = ⟨(UInt8.ofNat 4 :: Pat.bys l).toArray⟩ by rw [hX3, str_cons])
    have hz3 : X3.size ≤ 2000 := by rw [hX3, str_size]; exact hlen
    rw [← hX3] at HC
    have HO1 := hid (fun wx => oneByte_any 4 wx (by decide) (by decide))
    have hz1 : (⟨#[UInt8.ofNat 4]⟩ : ByteArray).size = 1 := rfl
    rw [show ((4 : Int).toNat) = 4 from rfl] at HO1
    generalize (⟨#[UInt8.ofNat 4]⟩ : ByteArray) = X1 at *
    clear hX3 hlen hn hr hcap hl hnl hwb
    go_enter Tryz.func15, Tryz.ntmps15
    go_wp2_with fail
    refine Calls.mono HW.out ?_
    rintro e _ ⟨rfl, rfl⟩
    go_wp2_with fail
    refine Calls.mono (HO1.out _) ?_
    rintro e w1 ⟨rfl, hx⟩
    have Xp := hid hx
    clear hx
    go_wp2_with fail
    refine Calls.mono (HC.out _ Xp.out) ?_
    rintro e w3 ⟨rfl, hx⟩
    replace Xp := hid (Xp.out.then hx)
    clear hx
    go_wp2
    go_returns
    exact ⟨by rw [← HVV.out]; rfl, Xp.out⟩
set_option maxHeartbeats 800000 in
theorem bestNumberBytes_any (l : List Nat) (A : Option Addr) (n cap : Nat) (w : World) (hn : l.length = n) (hr : Rd w A (u64s l)) (hcap : n ≤ cap) (hl : ∀ x ∈ l, x < 18446744073709551616) (hnl : n ≤ 64) :
    Calls Tryz.prog 14 #[.slice A n cap] w fun e w' => e = .returned (.string ⟨(Cod.up (Cod.nm l) 1 3).toArray⟩) ∧ Ext w w' := by
  have HC := hid (fun (k : Nat) (h1 : 1 ≤ k) (h4 : k ≤ 4) wx (hx : Ext w wx) => numberBytes_any l A n cap k wx hn (hr.keep hx) hcap hl hnl h1 h4)
  have HLN := hid (fun k => Cod.nm_len l k (by omega) hl)
  rw [← Cod.down4]
  have HTL := hid (fun k => Cod.tg_len (Cod.nm l) k)
  have HS0 := hid (Cod.down_zero (Cod.nm l) 4)
  have HSS := hid (fun j => Cod.down_succ (Cod.nm l) 4 j)
  have HDL := hid (fun j => Cod.down_len (Cod.nm l) 4 j 2000 HLN.out)
  generalize Cod.nm l = f at *
  clear hn hr hcap hl hnl
  go_enter Tryz.func14, Tryz.ntmps14
  go_wp2_with fail
  refine Calls.mono (HC.out 4 (by decide) (by decide) _ (ext_refl _)) ?_
  rintro e w1 ⟨rfl, hx⟩
  have X1 := hid hx
  clear hx
  rw [← HS0.out]
  go_wp2
  go_loopw [3, 4, 5] (fun v c _ wr => ∃ j : Nat, j ≤ 3 ∧ c = .int .i64 (3 - (j : Int)) ∧ v = .string ⟨(Cod.down f 4 j).toArray⟩ ∧ Hid (Ext w wr)) (fun _ c _ _ => (intOf c - 1 + 1).toNat)
  case atStart => exact ⟨0, Nat.zero_le _, rfl, rfl, X1⟩
  case round =>
    obtain ⟨j, hj, rfl, rfl, HX⟩ := hrel
    by_cases hlt : j < 3
    · have hc1 : (3 : Int) - (j : Int) = ((4 - j - 1 : Nat) : Int) := by omega
      have hjI : 1 ≤ ((4 - j - 1 : Nat) : Int) := by omega
      have hjU : ((4 - j - 1 : Nat) : Int) ≤ 4 := by omega
      have C1 := hid (HC.out (4 - j - 1) (by omega) (by omega))
      have U1 := hid (HSS.out j)
      have l1 := HDL.out j
      have l2 := HLN.out (4 - j - 1)
      have l3 := HTL.out (4 - j - 1)
      have hn1 : ((4 - j - 1 : Nat) : Int) - 1 = 3 - ((j + 1 : Nat) : Int) := by omega
      rw [hc1]
      obtain ⟨G, hG⟩ : ∃ S : ByteArray, S = ⟨(Cod.tg f (4 - j - 1)).toArray⟩ := ⟨_, rfl⟩
      obtain ⟨U, hU⟩ : ∃ S : ByteArray, S = ⟨(Cod.down f 4 j).toArray⟩ := ⟨_, rfl⟩
      have HGU := hid hG
      have HUU := hid hU
      have g1 : G.size = (Cod.tg f (4 - j - 1)).length := by rw [hG, str_size]
      have g2 : U.size = (Cod.down f 4 j).length := by rw [hU, str_size]
      have g3 : G.size ≤ 2001 := by omega
      have g4 : U.size ≤ 2001 := by omega
      rw [← hG] at C1
      rw [← hU]
      rw [← g1, ← g2] at U1
      have HJ := hid (show j + 1 ≤ 3 by omega)
      have HN1 := hid hn1
      clear hG hU g1 g2 l1 l2 l3 hc1 hn1 hj
      generalize ((4 - j - 1 : Nat) : Int) = q at *
      by_cases hs : G.size ≤ U.size
      · have hsI : (G.size : Int) ≤ (U.size : Int) := by omega
        rw [if_pos hs] at U1
        clear hs
        go_wp2_with fail
        refine Calls.mono (C1.out _ HX.out) ?_
        rintro e w3 ⟨rfl, hx⟩
        have X3 := hid (HX.out.then hx)
        clear hx
        go_wp2
        go_roundw
        case rel => exact ⟨j + 1, HJ.out, by rw [HN1.out], by rw [U1.out, ← HGU.out], X3⟩
        case measure => simp [intOf] <;> omega
      · have hsI : ¬ (G.size : Int) ≤ (U.size : Int) := by omega
        rw [if_neg hs] at U1
        clear hs
        go_wp2_with fail
        refine Calls.mono (C1.out _ HX.out) ?_
        rintro e w3 ⟨rfl, hx⟩
        have X3 := hid (HX.out.then hx)
        clear hx
        go_wp2
        go_roundw
        case rel => exact ⟨j + 1, HJ.out, by rw [HN1.out], by rw [U1.out, ← HUU.out], X3⟩
        case measure => simp [intOf] <;> omega
    · obtain rfl : j = 3 := by omega
      clear hlt hj
      go_wp2
      go_returns
      exact ⟨rfl, HX.out⟩
theorem bookWidth_any (n : Nat) (w : World) (hn : n ≤ 65) :
    Calls Tryz.prog 80 #[.int .i64 n] w fun e w' => e = .returned (.int .i64 (Cod.lw n : Nat)) ∧ w = w' := by
  rcases Nat.lt_or_ge 1 n with h1 | h1
  · obtain ⟨m, rfl⟩ : ∃ m, n = m + 1 := ⟨n - 1, by omega⟩
    have HF := hid (fun k (hk : k ≤ 64) wx => fits_any m k wx (by omega) (by omega))
    have hlw : Cod.lw (m + 1) = Lib.bitLen m := by rw [Cod.lw_pos (by omega)]; rfl
    have hle := Cod.lw_le hn
    rw [hlw] at hle ⊢
    have HFT := hid (fun k (hk : Lib.bitLen m ≤ k) => Bits.fitsB_true hk)
    have HFF := hid (fun k (hk : k < Lib.bitLen m) => Bits.fitsB_false hk)
    have hm : ((m + 1 : Nat) : Int) - 1 = (m : Int) := by omega
    have hmI : (m : Int) ≤ 64 := by omega
    have hgt : (1 : Int) < ((m + 1 : Nat) : Int) := by omega
    have hwu : IntKind.u64.wrap (m : Int) = (m : Int) := by rw [IntKind.wrap_u64]; omega
    generalize Lib.bitLen m = b at *
    clear hn h1 hlw
    generalize ((m + 1 : Nat) : Int) = q at *
    go_enter Tryz.func80, Tryz.ntmps80
    go_wp2
    go_loop [3] (fun c => ∃ k : Nat, k ≤ b ∧ c = .int .i64 k) (fun c => b - (intOf c).toNat)
    case atStart => exact ⟨0, Nat.zero_le _, rfl⟩
    case round =>
      obtain ⟨k, hk, rfl⟩ := hrel
      by_cases hlt : k < b
      · have C1 := hid (HF.out k (by omega))
        rw [HFF.out k hlt] at C1
        have hkI : (k : Int) ≤ 7 := by omega
        have HK := hid hlt
        clear hk hlt hle
        go_wp2_with (go_at_call 92; refine Calls.mono (C1.out _) ?_; rintro e _ ⟨rfl, rfl⟩)
        go_round
        case rel => exact ⟨k + 1, HK.out, by go_num⟩
        case measure => simp [intOf]; have := HK.out; omega
      · obtain rfl : k = b := by omega
        have C1 := hid (HF.out k (by omega))
        rw [HFT.out k (Nat.le_refl _)] at C1
        clear hk hlt
        go_wp2_with (go_at_call 92; refine Calls.mono (C1.out _) ?_; rintro e _ ⟨rfl, rfl⟩)
        go_returns
        exact ⟨rfl, rfl⟩
  · have hz : Cod.lw n = 0 := by unfold Cod.lw; split; rfl; rw [show n - 1 = 0 by omega]; rfl
    rw [hz]
    have hnI : ¬ (1 : Int) < (n : Int) := by omega
    have hd : decide ((1 : Int) < (n : Int)) = false := decide_eq_false hnI
    clear hn h1 hz
    go_enter Tryz.func80, Tryz.ntmps80
    go_wp2
    go_loop [3] (fun c => c = .int .i64 0) (fun _ => 0)
    case atStart => rfl
    case round =>
      subst hrel
      go_wp2_with fail
      go_returns
      exact ⟨rfl, rfl⟩
end Go.Proofs.YtdmmodeplfmpnaaGreat
end
section
namespace Go.Proofs.YtdmmodeplfmpnaaGreat
open Go.RowKit Hy
set_option maxRecDepth 100000 in
set_option maxHeartbeats 1600000 in
theorem textBytes_any (l : List (List UInt8)) (A : Option Addr) (n cap k : Nat) (w : World) (hn : l.length = n) (hr : Rd w A (txs l)) (hf : ∀ s ∈ l, s.length ≤ 16) (hnl : n ≤ 64) (h1 : 5 ≤ k) (h4 : k ≤ 7) :
    Calls Tryz.prog 31 #[.slice A n cap, .int .i64 k] w fun e w' => e = .returned (.string ⟨(Cod.tg (Cod.tx l) k).toArray⟩) ∧ Ext w w' := by
  have hfb := (Front.fitB_iff l).2 hf
  rw [Cod.tgn]
  obtain rfl | rfl | rfl : k = 5 ∨ k = 6 ∨ k = 7 := by omega
  · have HO1 := hid (fun wx => oneByte_any 5 wx (by decide) (by decide))
    rw [show ((5 : Int).toNat) = 5 from rfl] at HO1
    rw [Cod.tx5, show ((5 : Nat) : Int) = 5 from rfl]
    have HN := hid hn
    have HA := hid hr
    have HF := hid hf
    have HPA := hid (Cod.pln_at l)
    have HPL := hid (fun j => Cod.pln_le l j hf)
    have HPE := hid (Cod.pln_nil)
    have HNL := hid hnl
    clear hn hr hf hfb h1 h4 hnl
    go_enter Tryz.func31, Tryz.ntmps31
    go_wp2_with fail
    refine Calls.mono (HO1.out _) ?_
    rintro e w1 ⟨rfl, hx⟩
    have X1 := hid hx
    clear hx
    go_wp2
    go_loopw [5, 6] (fun v c wr => ∃ (k : Nat) (E : List UInt8), k ≤ n ∧ c = .int .i64 k ∧ Hid (E = UInt8.ofNat 5 :: Cod.pln (l.take k)) ∧ E.length ≤ 25 * k + 1 ∧ v = .string ⟨E.toArray⟩ ∧ Ext w wr) (fun _ c _ => n - (intOf c).toNat)
    case atStart => exact ⟨0, [UInt8.ofNat 5], Nat.zero_le _, rfl, hid (by rw [List.take_zero, HPE.out]), Nat.le_refl _, rfl, X1.out⟩
    case round =>
      obtain ⟨k, E, hk, rfl, HE, hE, rfl, X⟩ := hrel
      by_cases hlt : k < n
      · have hka : k < l.length := by rw [HN.out]; exact hlt
        obtain ⟨b1, o1, e1, l1, c1⟩ := HA.out.texts k hka
        subst e1
        have d1 := (X.cell (p := ⟨b1, o1 + k, none⟩) l1).trans (c1 k hka)
        have hx := HF.out l[k] (List.getElem_mem hka)
        have HS := HPA.out k hka
        have hle := HPL.out (k + 1)
        rw [HS] at hle
        generalize l[k] = s at *
        obtain ⟨S, hS⟩ : ∃ S : ByteArray, S = ⟨s.toArray⟩ := ⟨_, rfl⟩
        have hSz : S.size = s.length := by rw [hS, str_size]
        have hSI : (S.size : Int) ≤ 16 := by omega
        have hwu : IntKind.u64.wrap (S.size : Int) = (S.size : Int) := by rw [IntKind.wrap_u64]; omega
        obtain ⟨p1, hp1⟩ : ∃ p1 : ByteArray, p1 = ⟨(Vary.wr s.length).toArray⟩ := ⟨_, rfl⟩
        obtain ⟨EE, hEE⟩ : ∃ EE : ByteArray, EE = ⟨E.toArray⟩ := ⟨_, rfl⟩
        have G1 : Gives Tryz.prog 78 #[.int .u64 S.size] (.string p1) := fun wx => by rw [hp1, hSz]; exact varyBytes_any s.length wx (by omega)
        have hp1l : p1.size ≤ 9 := by rw [hp1, str_size, Vary.wr_len]; have := Vary.beh_le8 s.length; omega
        have hEl : EE.size ≤ 25 * k + 1 := by rw [hEE, str_size]; exact hE
        simp only [List.length_append] at hle
        have HNX := hid (show EE ++ (p1 ++ S) = ⟨(UInt8.ofNat 5 :: Cod.pln (l.take (k + 1))).toArray⟩ by
          rw [HS, hEE, hp1, hS, str_app, str_app, HE.out]; simp)
        have HLX := hid (show (UInt8.ofNat 5 :: Cod.pln (l.take (k + 1))).length ≤ 25 * (k + 1) + 1 by
          rw [HS]; simp only [List.length_cons, List.length_append]; omega)
        have hk64 := HNL.out
        rw [← hS] at d1
        rw [← hEE]
        have d3 := cell_regrown d1
        clear c1 HS hS hp1 hSz hka hE hle hEE hx
        go_wp2_with fail
        refine wp_region_quiet_below (by kernel_rfl) (by kernel_rfl) ?_
        repeat (go_big_quiet_step (first | (go_at_call 78; with_reducible exact G1.quiet _ _ _)))
        refine wpQuiet_nil ?_
        intro w9 hw9
        obtain ⟨p, rfl⟩ := hw9
        go_wp2
        go_roundw
        case rel => exact ⟨k + 1, _, by omega, by go_num, hid rfl, HLX.out, by rw [← HNX.out], X.then (ext_regrown _ p)⟩
        case measure => simp [intOf]; omega
      · obtain rfl : k = n := by omega
        have HE2 := hid (show E = UInt8.ofNat 5 :: Cod.pln l by rw [HE.out, List.take_of_length_le (by rw [HN.out]; exact Nat.le_refl _)])
        go_wp2
        go_returns
        exact ⟨by rw [← HE2.out]; rfl, X⟩
  · have hlen := Cod.tx_len l 6 (by omega) hf
    rw [Cod.tx6, Cod.bok_eq] at hlen ⊢
    simp only [List.length_append] at hlen
    have HO := hid (bookOf_any l A n cap w hn hr (by omega) (fun x hx => by have := hf x hx; omega))
    have HO1 := hid (fun wx => oneByte_any 6 wx (by decide) (by decide))
    rw [show ((6 : Int).toNat) = 6 from rfl] at HO1
    have hbl := Dct.bk_len l
    have hcl := Dct.cds_len l
    have hcf := Cod.cds_fit l (by omega)
    have hbf := Cod.bk_fit l hf
    obtain ⟨B, hB⟩ : ∃ B, B = Dct.bk l := ⟨_, rfl⟩
    obtain ⟨C, hC⟩ : ∃ C, C = Dct.cds l := ⟨_, rfl⟩
    rw [← hB] at HO hbl hbf hlen ⊢
    rw [← hB] at hcf
    rw [← hC] at HO hcl hcf hlen ⊢
    obtain ⟨b, hb⟩ : ∃ b, b = B.length := ⟨_, rfl⟩
    rw [← hb] at HO hbl hcf hlen ⊢
    have hlw := Cod.lw_le (n := b) (by omega)
    have HL := hid (fun wx => bookWidth_any b wx (by omega))
    have HV := hid (fun wx => varyBytes_any b wx (by omega))
    have HR := hid (fun A c wx h => packedOf_any C A n c (Cod.lw b) wx (by rw [hcl, hn]) h hcf (by omega) (by omega))
    have HFR := hid (fun A c wx h => frontBytes_any B A b c wx hb.symm h (by omega) ((Front.fitB_iff B).2 hbf))
    obtain ⟨lwb, hlwb⟩ : ∃ q, q = Cod.lw b := ⟨_, rfl⟩
    rw [← hlwb] at HL HR hlen ⊢
    obtain ⟨X1, hX1⟩ : ∃ S : ByteArray, S = ⟨(Vary.wr b).toArray⟩ := ⟨_, rfl⟩
    obtain ⟨X2, hX2⟩ : ∃ S : ByteArray, S = ⟨(Bits.packed C lwb).toArray⟩ := ⟨_, rfl⟩
    obtain ⟨X3, hX3⟩ : ∃ S : ByteArray, S = ⟨(Front.bytes B).toArray⟩ := ⟨_, rfl⟩
    have hz1 : X1.size ≤ 2000 := by rw [hX1, str_size]; omega
    have hz2 : X2.size ≤ 2000 := by rw [hX2, str_size]; omega
    have hz3 : X3.size ≤ 2000 := by rw [hX3, str_size]; omega
    have HVV := hid (show (⟨#[UInt8.ofNat 6]⟩ : ByteArray) ++ X1 ++ X2 ++ X3 = ⟨(UInt8.ofNat 6 :: (Vary.wr b ++ Bits.packed C lwb ++ Front.bytes B)).toArray⟩ by rw [hX1, hX2, hX3, str_cons, str_app, str_app]; rfl)
    have hz0 : (⟨#[UInt8.ofNat 6]⟩ : ByteArray).size = 1 := rfl
    generalize (⟨#[UInt8.ofNat 6]⟩ : ByteArray) = X0 at *
    rw [← hX1] at HV
    rw [← hX2] at HR
    rw [← hX3] at HFR
    have HCL := hid (show C.length = n by rw [hcl, hn])
    have hbI : (b : Int) ≤ 64 := by omega
    have hwu : IntKind.u64.wrap (b : Int) = (b : Int) := by rw [IntKind.wrap_u64]; omega
    clear hn hr hf hfb h1 h4 hnl hlen hbl hcl hcf hbf hB hC hb hlw hlwb hX1 hX2 hX3
    go_enter Tryz.func31, Tryz.ntmps31
    go_wp2_with fail
    refine Calls.mono HO.out ?_
    rintro e w1 ⟨B1, cb, C1, cc, rfl, hrb, hrc, hx⟩
    have HRB := hid hrb
    have HRC := hid hrc
    have Xp := hid hx
    clear hrb hrc hx
    rw [HCL.out]
    go_wp2_with fail
    refine Calls.mono (HO1.out _) ?_
    rintro e w0 ⟨rfl, hx⟩
    replace Xp := hid (Xp.out.then hx)
    replace HRB := hid (HRB.out.keep hx)
    replace HRC := hid (HRC.out.keep hx)
    clear hx
    go_wp2_with fail
    refine Calls.mono (HV.out _) ?_
    rintro e w2 ⟨rfl, hx⟩
    replace Xp := hid (Xp.out.then hx)
    replace HRB := hid (HRB.out.keep hx)
    replace HRC := hid (HRC.out.keep hx)
    clear hx
    go_wp2_with fail
    refine Calls.mono (HL.out _) ?_
    rintro e _ ⟨rfl, rfl⟩
    go_wp2_with fail
    refine Calls.mono (HR.out _ _ _ HRC.out) ?_
    rintro e w4 ⟨rfl, hx⟩
    replace Xp := hid (Xp.out.then hx)
    replace HRB := hid (HRB.out.keep hx)
    clear hx
    go_wp2_with fail
    refine Calls.mono (HFR.out _ _ _ HRB.out) ?_
    rintro e w5 ⟨rfl, hx⟩
    replace Xp := hid (Xp.out.then hx)
    clear hx
    go_wp2
    go_returns
    exact ⟨by rw [← HVV.out]; rfl, Xp.out⟩
  · have hlen := Cod.tx_len l 7 (by omega) hf
    rw [Cod.tx7] at hlen ⊢
    have HC := hid (fun wx (hx : Ext w wx) => frontBytes_any l A n cap wx hn (hr.keep hx) hnl hfb)
    have HO1 := hid (fun wx => oneByte_any 7 wx (by decide) (by decide))
    rw [show ((7 : Int).toNat) = 7 from rfl] at HO1
    obtain ⟨X3, hX3⟩ : ∃ S : ByteArray, S = ⟨(Front.bytes l).toArray⟩ := ⟨_, rfl⟩
    have hz3 : X3.size ≤ 2000 := by rw [hX3, str_size]; exact hlen
    have HVV := hid (show (⟨#[UInt8.ofNat 7]⟩ : ByteArray) ++ X3 = ⟨(UInt8.ofNat 7 :: Front.bytes l).toArray⟩ by rw [hX3, str_cons])
    have hz0 : (⟨#[UInt8.ofNat 7]⟩ : ByteArray).size = 1 := rfl
    generalize (⟨#[UInt8.ofNat 7]⟩ : ByteArray) = X0 at *
    rw [← hX3] at HC
    clear hn hr hf hfb h1 h4 hnl hlen hX3
    go_enter Tryz.func31, Tryz.ntmps31
    go_wp2_with fail
    refine Calls.mono (HO1.out _) ?_
    rintro e w1 ⟨rfl, hx⟩
    have Xp := hid hx
    clear hx
    go_wp2_with fail
    refine Calls.mono (HC.out _ Xp.out) ?_
    rintro e w2 ⟨rfl, hx⟩
    replace Xp := hid (Xp.out.then hx)
    clear hx
    go_wp2
    go_returns
    exact ⟨by rw [← HVV.out]; rfl, Xp.out⟩
set_option maxHeartbeats 800000 in
theorem bestTextBytes_any (l : List (List UInt8)) (A : Option Addr) (n cap : Nat) (w : World) (hn : l.length = n) (hr : Rd w A (txs l)) (hf : ∀ s ∈ l, s.length ≤ 16) (hnl : n ≤ 64) :
    Calls Tryz.prog 30 #[.slice A n cap] w fun e w' => e = .returned (.string ⟨(Cod.up (Cod.tx l) 5 2).toArray⟩) ∧ Ext w w' := by
  have HC := hid (fun (k : Nat) (h1 : 5 ≤ k) (h4 : k ≤ 7) wx (hx : Ext w wx) => textBytes_any l A n cap k wx hn (hr.keep hx) hf hnl h1 h4)
  have HLN := hid (fun k => Cod.tx_len l k (by omega) hf)
  rw [← Cod.down7]
  have HTL := hid (fun k => Cod.tg_len (Cod.tx l) k)
  have HS0 := hid (Cod.down_zero (Cod.tx l) 7)
  have HSS := hid (fun j => Cod.down_succ (Cod.tx l) 7 j)
  have HDL := hid (fun j => Cod.down_len (Cod.tx l) 7 j 2000 HLN.out)
  generalize Cod.tx l = f at *
  clear hn hr hf hnl
  go_enter Tryz.func30, Tryz.ntmps30
  go_wp2_with fail
  refine Calls.mono (HC.out 7 (by decide) (by decide) _ (ext_refl _)) ?_
  rintro e w1 ⟨rfl, hx⟩
  have X1 := hid hx
  clear hx
  rw [← HS0.out]
  go_wp2
  go_loopw [3, 4, 5] (fun v c _ wr => ∃ j : Nat, j ≤ 2 ∧ c = .int .i64 (6 - (j : Int)) ∧ v = .string ⟨(Cod.down f 7 j).toArray⟩ ∧ Hid (Ext w wr)) (fun _ c _ _ => (intOf c - 5 + 1).toNat)
  case atStart => exact ⟨0, Nat.zero_le _, rfl, rfl, X1⟩
  case round =>
    obtain ⟨j, hj, rfl, rfl, HX⟩ := hrel
    by_cases hlt : j < 2
    · have hc1 : (6 : Int) - (j : Int) = ((7 - j - 1 : Nat) : Int) := by omega
      have hjI : 5 ≤ ((7 - j - 1 : Nat) : Int) := by omega
      have hjU : ((7 - j - 1 : Nat) : Int) ≤ 7 := by omega
      have C1 := hid (HC.out (7 - j - 1) (by omega) (by omega))
      have U1 := hid (HSS.out j)
      have l1 := HDL.out j
      have l2 := HLN.out (7 - j - 1)
      have l3 := HTL.out (7 - j - 1)
      have hn1 : ((7 - j - 1 : Nat) : Int) - 1 = 6 - ((j + 1 : Nat) : Int) := by omega
      rw [hc1]
      obtain ⟨G, hG⟩ : ∃ S : ByteArray, S = ⟨(Cod.tg f (7 - j - 1)).toArray⟩ := ⟨_, rfl⟩
      obtain ⟨U, hU⟩ : ∃ S : ByteArray, S = ⟨(Cod.down f 7 j).toArray⟩ := ⟨_, rfl⟩
      have HGU := hid hG
      have HUU := hid hU
      have g1 : G.size = (Cod.tg f (7 - j - 1)).length := by rw [hG, str_size]
      have g2 : U.size = (Cod.down f 7 j).length := by rw [hU, str_size]
      have g3 : G.size ≤ 2001 := by omega
      have g4 : U.size ≤ 2001 := by omega
      rw [← hG] at C1
      rw [← hU]
      rw [← g1, ← g2] at U1
      have HJ := hid (show j + 1 ≤ 2 by omega)
      have HN1 := hid hn1
      clear hG hU g1 g2 l1 l2 l3 hc1 hn1 hj
      generalize ((7 - j - 1 : Nat) : Int) = q at *
      by_cases hs : G.size ≤ U.size
      · have hsI : (G.size : Int) ≤ (U.size : Int) := by omega
        rw [if_pos hs] at U1
        clear hs
        go_wp2_with fail
        refine Calls.mono (C1.out _ HX.out) ?_
        rintro e w3 ⟨rfl, hx⟩
        have X3 := hid (HX.out.then hx)
        clear hx
        go_wp2
        go_roundw
        case rel => exact ⟨j + 1, HJ.out, by rw [HN1.out], by rw [U1.out, ← HGU.out], X3⟩
        case measure => simp [intOf] <;> omega
      · have hsI : ¬ (G.size : Int) ≤ (U.size : Int) := by omega
        rw [if_neg hs] at U1
        clear hs
        go_wp2_with fail
        refine Calls.mono (C1.out _ HX.out) ?_
        rintro e w3 ⟨rfl, hx⟩
        have X3 := hid (HX.out.then hx)
        clear hx
        go_wp2
        go_roundw
        case rel => exact ⟨j + 1, HJ.out, by rw [HN1.out], by rw [U1.out, ← HUU.out], X3⟩
        case measure => simp [intOf] <;> omega
    · obtain rfl : j = 2 := by omega
      clear hlt hj
      go_wp2
      go_returns
      exact ⟨rfl, HX.out⟩
end Go.Proofs.YtdmmodeplfmpnaaGreat
end
section
namespace Go.Proofs.YtdmmodeplfmpnaaGreat
open Go.RowKit Hy
set_option maxRecDepth 100000 in
set_option maxHeartbeats 2000000 in
theorem plainOf_any (s0 : ByteArray) (mm : Nat) (w : World) (hs : s0.size ≤ 281474976710656) (hm : mm ≤ 64) :
    Calls Tryz.prog 60 #[.string s0, .int .i64 mm] w (TextsOut (Cod.rpl mm s0.data.toList []).1 (Cod.rpl mm s0.data.toList []).2 w) := by
  obtain ⟨R, hR⟩ : ∃ R, R = Cod.rpl mm s0.data.toList [] := ⟨_, rfl⟩
  rw [← hR]
  have HR := hid hR
  have HSS := hid hs
  have hmI : (mm : Int) ≤ 64 := by omega
  clear hR hs
  go_enter Tryz.func60, Tryz.ntmps60
  go_wp2
  go_loopw [0, 6, 7, 8, 9] (fun sv v _ _ _ wr => ∃ (i : Nat) (S : ByteArray) (o : List (List UInt8)), i ≤ mm ∧ sv = .string S ∧ S.size ≤ 281474976710656 ∧ o.length = i ∧ Hid (R = Cod.rpl (mm - i) S.data.toList o) ∧ Hid (wr.ownsRow w.heap.size 9 1 v o.length (txs o)) ∧ Hid (Ext w wr)) (fun _ v _ _ _ _ => match v with | .slice _ q _ => mm - q | _ => 0)
  case atStart => exact ⟨0, s0, [], Nat.zero_le _, rfl, HSS.out, rfl, HR, hid (World.ownsRow_nil _ _ _ _), hid (ext_refl _)⟩
  case round =>
    obtain ⟨i, S, o, hi, rfl, hS, ho, HI, HO, HX⟩ := hrel
    by_cases hlt : i < mm
    · obtain ⟨j, hj⟩ : ∃ j, mm - i = j + 1 := ⟨mm - i - 1, by omega⟩
      have hj2 : mm - (i + 1) = j := by omega
      have e2 := HI.out
      rw [hj] at e2
      obtain ⟨A3, c3, rfl, hrd3, _⟩ := Rd.owned HO.out
      rw [ho] at HO ⊢
      clear hrd3
      have CR := hid (fun wx => varyOf_any S wx hS)
      obtain ⟨n, k, er, hrd⟩ : ∃ n k er, Vary.rd S.data.toList = (n, k, er) := ⟨_, _, _, rfl⟩
      rw [hrd] at CR
      simp only at CR
      have hltI : (i : Int) < (mm : Int) := by omega
      have hiI : (i : Int) ≤ 64 := by omega
      by_cases he : er = 0
      · subst he
        obtain ⟨g1, g2, g3, g4, _⟩ := Vary.rd_ok (s := S.data.toList) (by rw [hrd])
        rw [hrd] at g1 g2 g3 g4
        simp only at g1 g2 g3 g4
        rw [Array.length_toList] at g2
        have hsz : S.data.size = S.size := rfl
        have hdl : (S.data.toList.drop k).length = S.size - k := by rw [List.length_drop, Array.length_toList, hsz]
        rw [hsz] at g2
        have hkI : (k : Int) ≤ 9 := by omega
        have hSzI : (S.size : Int) ≤ 281474976710656 := by omega
        have hkS : (k : Int) ≤ (S.size : Int) := by omega
        by_cases hn16 : 16 < n
        · have HE := hid (show R = ([], 2) by rw [e2, Cod.rpl_bad (Cod.one_many hrd hn16) (by decide)])
          have hnI : (16 : Int) < (n : Int) := by omega
          clear hrd e2 HI hS ho hi hj hj2 hm hlt hn16 hdl hsz g1 g2 g3 g4 HR HSS
          go_wp2_with (first
            | (go_at_call 108; refine Calls.mono (CR.out _) ?_; rintro e' w2 ⟨rfl, hx2⟩; have HX2 := hid (HX.out.then hx2); have HO2 := hid (own_ext HO.out hx2); clear hx2))
          go_returns
          exact ⟨none, 0, by rw [HE.out]; rfl, fun h => by rw [HE.out] at h; simp [txs] at h, HX2.out⟩
        · have hnI : ¬ (16 : Int) < (n : Int) := by omega
          have hn2 : (n : Int) ≤ 16 := by omega
          have hwn : IntKind.i64.wrap (n : Int) = (n : Int) := by rw [IntKind.wrap_i64]; omega
          have hwu : IntKind.u64.wrap ((S.size : Int) - (k : Int)) = (S.size : Int) - (k : Int) := by rw [IntKind.wrap_u64]; omega
          by_cases h5 : S.size - k < n
          · have HE := hid (show R = ([], 5) by rw [e2, Cod.rpl_bad (Cod.one_none hrd hn16 (by rw [hdl]; exact h5)) (by decide)])
            have h5I : (S.size : Int) < (k : Int) + (n : Int) := by omega
            clear hrd e2 HI hS ho hi hj hj2 hm hlt hn16 hdl hsz g1 g2 g3 g4 HR HSS h5
            go_wp2_with (first
              | (go_at_call 108; refine Calls.mono (CR.out _) ?_; rintro e' w2 ⟨rfl, hx2⟩; have HX2 := hid (HX.out.then hx2); have HO2 := hid (own_ext HO.out hx2); clear hx2))
            go_returns
            exact ⟨none, 0, by rw [HE.out]; rfl, fun h => by rw [HE.out] at h; simp [txs] at h, HX2.out⟩
          · have h5I : ¬ (S.size : Int) < (k : Int) + (n : Int) := by omega
            have hon := Cod.one_ok hrd hn16 (by rw [hdl]; exact h5)
            rw [Cod.rpl_ok hon] at e2
            have hF := fun wx : World => run_fromto (P := Tryz.prog) (w := wx) Tryz.underlying9 S .i64 .i64 k (k + n) (by omega) (by omega)
            have hT := fun wx : World => run_from (P := Tryz.prog) (w := wx) Tryz.underlying9 S .i64 (k + n) (by omega)
            rw [Nat.add_sub_cancel_left] at hF
            rw [← List.drop_drop] at hT
            simp only [Int.natCast_add] at hF hT
            obtain ⟨t, ht⟩ : ∃ t, t = (S.data.toList.drop k).take n := ⟨_, rfl⟩
            obtain ⟨r, hr⟩ : ∃ r, r = (S.data.toList.drop k).drop n := ⟨_, rfl⟩
            rw [← ht] at hF e2
            rw [← hr] at hT e2
            have hrl : r.length ≤ 281474976710656 := by rw [hr, List.length_drop, hdl]; omega
            obtain ⟨U, hU⟩ : ∃ U : ByteArray, U = ⟨r.toArray⟩ := ⟨_, rfl⟩
            have hUr : U.data.toList = r := by rw [hU]
            rw [← hU] at hT
            have HE := hid (show R = Cod.rpl (mm - (i + 1)) U.data.toList (o ++ [t]) by rw [e2, hj2, hUr])
            have HUL := hid (show U.size ≤ 281474976710656 by rw [hU, str_size]; exact hrl)
            have HOL := hid (show (o ++ [t]).length = i + 1 by rw [List.length_append]; simp; omega)
            have HOL0 := hid ho
            have HIM := hid hlt
            have HI64 := hid (show i ≤ 64 by omega)
            clear hrd e2 HI hS ho hi hj hj2 hm hn16 hdl hsz g1 g2 g3 g4 HR HSS h5 hon ht hr hrl hU hUr hlt
            go_wp2_with (first
              | (go_at_call 108; refine Calls.mono (CR.out _) ?_; rintro e' w2 ⟨rfl, hx2⟩; have HX2 := hid (HX.out.then hx2); have HO2 := hid (own_ext HO.out hx2); clear hx2)
              | (at_builtin; refine wpList_app rfl (.tmp 32) (.tmp 40) rowTx rfl _ i _ rfl (HO2.out.alloc _) _ 1 (txs [t]) rfl (Src.rd Tryz.underlying33 _ 1 1 _ rfl (rd_lit rfl rfl) (txs_one _) (fun h => by cases h)) (by have := HI64.out; have := HOL0.out; unfold maxLen; omega) (by have := HI64.out; have := HOL0.out; omega) (by have := HX2.out.size; simp; omega) ?_; intro v' w3 hown3 hgrow hat hbel; have HO3 := hid hown3; have HX3 : Hid (Ext w w3) := hid (Below.trans (Ext.new HX2.out _) hbel); obtain ⟨A5, c5, rfl, _⟩ := Rd.owned HO3.out; clear hown3 hgrow hat hbel))
            go_roundw
            case rel => exact ⟨i + 1, U, o ++ [t], HIM.out, rfl, HUL.out, HOL.out, HE, hid (by rw [txs_app, HOL.out]; exact HO3.out), HX3⟩
            case measure => have := HIM.out; simp; omega
      · have HE := hid (show R = ([], er) by rw [e2, Cod.rpl_bad (Cod.one_bad hrd he) he])
        have h3 : ((er : Int) != 0) = true := by rw [bne_iff_ne]; omega
        have h4 : ((er : Int) == 0) = false := by rw [beq_eq_false_iff_ne]; omega
        clear hrd e2 HI hS ho hi hj hj2 hm hlt he HR HSS
        go_wp2_with (first
          | (go_at_call 108; refine Calls.mono (CR.out _) ?_; rintro e' w2 ⟨rfl, hx2⟩; have HX2 := hid (HX.out.then hx2); have HO2 := hid (own_ext HO.out hx2); clear hx2))
        go_returns
        exact ⟨none, 0, by rw [HE.out]; rfl, fun h => by rw [HE.out] at h; simp [txs] at h, HX2.out⟩
    · obtain rfl : i = mm := by omega
      have e2 := HI.out
      rw [Nat.sub_self] at e2
      obtain ⟨A3, c3, rfl, hrd3, _⟩ := Rd.owned HO.out
      have HRD := hid hrd3
      rw [ho]
      have HOL := hid ho
      by_cases hs0 : S.data.toList = []
      · obtain rfl : S = ⟨#[]⟩ := by
          apply ByteArray.ext; apply Array.ext'; rw [hs0]
        have HE := hid (show R = (o, 0) by rw [e2]; rfl)
        clear e2 HI hS ho hi hm hlt HR HSS hs0 hrd3 HO
        go_wp2
        go_returns
        exact ⟨A3, c3, by rw [HE.out]; show _ = Ending.returned (.tuple #[.slice A3 o.length c3, _]); rw [HOL.out]; rfl, by rw [HE.out]; exact HRD.out, HX.out⟩
      · have HE := hid (show R = ([], 1) by rw [e2]; simp only [Cod.rpl]; rw [if_neg hs0])
        have e1 : S.toList.isEmpty = false := by
          have : S.toList = S.data.toList := toList_data S
          rw [this]; simpa using hs0
        have hz : 0 < (S.size : Int) := by
          have h8 : S.data.size = S.size := rfl
          have h9 : S.data.toList.length ≠ 0 := fun h => hs0 (List.length_eq_zero_iff.1 h)
          rw [Array.length_toList] at h9; omega
        clear e2 HI hS ho hi hm hlt HR HSS hs0 hrd3 HO
        go_wp2
        go_returns
        exact ⟨none, 0, by rw [HE.out]; rfl, fun h => by rw [HE.out] at h; simp [txs] at h, HX.out⟩
set_option maxRecDepth 100000 in
set_option maxHeartbeats 2000000 in
theorem bookTexts_any_r (S : ByteArray) (mm : Nat) (w : World) (hs : S.size ≤ 281474976710656) (hm : mm ≤ 64) (hq : 0 < mm * Cod.lw (Vary.rd S.data.toList).1 % 8) :
    Calls Tryz.prog 61 #[.string S, .int .i64 mm] w (TextsOut (Cod.rbk S.data.toList mm).1 (Cod.rbk S.data.toList mm).2 w) := by
  have CR := hid (fun wx => varyOf_any S wx hs)
  obtain ⟨n, k, er, hrd⟩ : ∃ n k er, Vary.rd S.data.toList = (n, k, er) := ⟨_, _, _, rfl⟩
  rw [hrd] at CR
  simp only at CR
  have hmI : (mm : Int) ≤ 64 := by omega
  obtain ⟨R, hR⟩ : ∃ R, R = Cod.rbk S.data.toList mm := ⟨_, rfl⟩
  rw [← hR]
  by_cases he : er = 0
  · subst he
    obtain ⟨g1, g2, g3, g4, _⟩ := Vary.rd_ok (s := S.data.toList) (by rw [hrd])
    rw [hrd] at g1 g2 g3 g4
    simp only at g1 g2 g3 g4
    have hsz : S.data.size = S.size := rfl
    rw [Array.length_toList, hsz] at g2
    have hkI : (k : Int) ≤ 9 := by omega
    have hSzI : (S.size : Int) ≤ 281474976710656 := by omega
    have hkS : (k : Int) ≤ (S.size : Int) := by omega
    by_cases hn64 : 64 < n
    · have HE := hid (show R = ([], 2) by rw [hR, Cod.rbk_many hrd hn64])
      have hnI : (64 : Int) < (n : Int) := by omega
      clear hrd hR hs hm hsz g1 g2 g3 g4 hn64 hq
      go_enter Tryz.func61, Tryz.ntmps61
      go_wp2_with fail
      refine Calls.mono (CR.out _) ?_
      rintro e' w1 ⟨rfl, hx⟩
      have XP := hid hx
      clear hx
      go_wp2
      go_returns
      exact ⟨none, 0, by rw [HE.out]; rfl, fun h => by rw [HE.out] at h; simp [txs] at h, XP.out⟩
    · have hnI : ¬ (64 : Int) < (n : Int) := by omega
      have hn2 : (n : Int) ≤ 64 := by omega
      have hwn : IntKind.i64.wrap (n : Int) = (n : Int) := by rw [IntKind.wrap_i64]; omega
      have hlw := Cod.lw_le (n := n) (by omega)
      have HL := hid (fun wx => bookWidth_any n wx (by omega))
      obtain ⟨lwb, hlwb⟩ : ∃ q, q = Cod.lw n := ⟨_, rfl⟩
      obtain ⟨z, hz⟩ : ∃ z, z = Bits.size mm lwb := ⟨_, rfl⟩
      obtain ⟨p, hp⟩ : ∃ p, p = mm * lwb := ⟨_, rfl⟩
      have hz' : Bits.size mm (Cod.lw n) = z := by rw [hz, hlwb]
      rw [← hlwb] at HL hlw
      have hpl : p ≤ 64 * 7 := by rw [hp]; exact Nat.mul_le_mul hm hlw
      have hpI : (p : Int) ≤ 448 := by omega
      have hlwI : (lwb : Int) ≤ 7 := by omega
      have hmul : (mm : Int) * (lwb : Int) = (p : Int) := by rw [hp, Int.natCast_mul]
      have hz8 : z = (p + 7) / 8 := by rw [hz, hp]; rfl
      have hdiv : ((p : Int) + 7) / 8 = (z : Int) := by omega
      have hzI : (z : Int) ≤ 56 := by omega
      rw [hrd] at hq
      simp only [← hlwb, ← hp] at hq
      have hq2 : (0 : Int) < (p : Int) % 8 := by omega
      have hq3 : (p : Int) / 8 + 1 = (z : Int) := by omega
      clear hq hdiv
      obtain ⟨r, hr⟩ : ∃ r, r = S.data.toList.drop k := ⟨_, rfl⟩
      have hrl : r.length = S.size - k := by rw [hr, List.length_drop, Array.length_toList, hsz]
      by_cases h5 : r.length < z
      · have HE := hid (show R = ([], 5) by rw [hR, Cod.rbk_none hrd hn64 hr.symm hz' h5])
        have h5I : (S.size : Int) < (k : Int) + (z : Int) := by omega
        clear hrd hR hs hm hsz g1 g2 g3 g4 hn64 hlw hlwb hz hp hz' hpl hz8 hr hrl h5
        go_enter Tryz.func61, Tryz.ntmps61
        go_wp2_with fail
        refine Calls.mono (CR.out _) ?_
        rintro e' w1 ⟨rfl, hx⟩
        have XP := hid hx
        clear hx
        go_wp2_with fail
        refine Calls.mono (HL.out _) ?_
        rintro e' _ ⟨rfl, rfl⟩
        go_wp2
        go_returns
        exact ⟨none, 0, by rw [HE.out]; rfl, fun h => by rw [HE.out] at h; simp [txs] at h, XP.out⟩
      · have h5I : ¬ (S.size : Int) < (k : Int) + (z : Int) := by omega
        have hF := fun wx : World => run_fromto (P := Tryz.prog) (w := wx) Tryz.underlying9 S .i64 .i64 k (k + z) (by omega) (by omega)
        have hT := fun wx : World => run_from (P := Tryz.prog) (w := wx) Tryz.underlying9 S .i64 (k + z) (by omega)
        rw [Nat.add_sub_cancel_left, ← hr] at hF
        rw [← List.drop_drop, ← hr] at hT
        simp only [Int.natCast_add] at hF hT
        have HU := hid (fun wx => show Calls Tryz.prog 58 #[.string ⟨(r.take z).toArray⟩, .int .i64 mm, .int .i64 lwb] wx (NumsOut (Bits.up (r.take z) mm lwb) (Bits.chk (r.take z) mm lwb) wx) from unpackOf_any ⟨(r.take z).toArray⟩ mm lwb wx (by rw [str_size, List.length_take]; omega))
        have HFR := hid (fun wx => show Calls Tryz.prog 62 #[.string ⟨(r.drop z).toArray⟩, .int .i64 n] wx (TextsOut (Front.rdl (r.drop z) n).1 (Front.rdl (r.drop z) n).2 wx) from frontOf_any ⟨(r.drop z).toArray⟩ n wx (by rw [str_size, List.length_drop]; omega))
        unfold NumsOut at HU
        unfold TextsOut at HFR
        have hup0 := Cod.rpk_lt mm (r.take z) lwb
        have hck := Cod.rbk_chk hrd hn64 hr.symm hz' h5
        have hfr := Cod.rbk_front hrd hn64 hr.symm hz' h5
        have hok := Cod.rbk_ok hrd hn64 hr.symm hz' h5
        rw [← hR, ← hlwb] at hck hfr hok
        have hft0 := fun h => Cod.rdl_fit (s := r.drop z) (many := n) h
        obtain ⟨C, hC⟩ : ∃ C, C = Bits.up (r.take z) mm lwb := ⟨_, rfl⟩
        obtain ⟨ec, hec⟩ : ∃ e, e = Bits.chk (r.take z) mm lwb := ⟨_, rfl⟩
        have hup : (∀ x ∈ C, x < 18446744073709551616) ∧ C.length ≤ 64 := by rw [hC]; exact hup0
        rw [← hC] at HU hok
        rw [← hec] at HU hck hfr hok
        obtain ⟨B, eb, hB⟩ : ∃ B eb, Front.rdl (r.drop z) n = (B, eb) := ⟨_, _, rfl⟩
        rw [hB] at HFR hfr hok hft0
        simp only at HFR hfr hok hft0
        obtain ⟨Y1, hY1⟩ : ∃ S : ByteArray, S = ⟨(r.take z).toArray⟩ := ⟨_, rfl⟩
        obtain ⟨Y2, hY2⟩ : ∃ S : ByteArray, S = ⟨(r.drop z).toArray⟩ := ⟨_, rfl⟩
        rw [← hY1] at HU hF
        rw [← hY2] at HFR hT
        obtain ⟨cn, hcn⟩ : ∃ q, q = C.length := ⟨_, rfl⟩
        rw [← hcn] at HU
        have hcnI : (cn : Int) ≤ 64 := by omega
        clear hrd hR hs hsz g1 g2 g3 g4 hn64 hlw hlwb hz hp hz' hpl hz8 hr hrl h5 hC hec hB hY1 hY2 hm hup0
        by_cases hcz : ec = 0
        · subst hcz
          obtain ⟨bn, hbn⟩ : ∃ q, q = B.length := ⟨_, rfl⟩
          rw [← hbn] at HFR
          by_cases hez : eb = 0
          · subst hez
            have HE := hid (hok rfl rfl)
            have hft := hft0 rfl
            have HTX := hid (fun A1 A2 c1 c2 wx (h1 : Rd wx A1 (txs B)) (h2 : Rd wx A2 (u64s C)) => show Calls Tryz.prog 112 #[.slice A1 B.length c1, .slice A2 C.length c2] wx (TextsOut (Dct.txt B C).1 (Dct.txt B C).2 wx) from textsOf_any B C A1 A2 B.length C.length c1 c2 wx rfl rfl h1 h2 hup.1 (by omega) (by omega) (fun x hx => by have := hft.2 x hx; omega))
            unfold TextsOut at HTX
            rw [← hbn, ← hcn] at HTX
            have hbnI : (bn : Int) ≤ 64 := by omega
            clear hck hfr hok hft0 hft hup hbn hcn
            go_enter Tryz.func61, Tryz.ntmps61
            go_wp2_with fail
            refine Calls.mono (CR.out _) ?_
            rintro e' w1 ⟨rfl, hx⟩
            have XP := hid hx
            clear hx
            go_wp2_with fail
            refine Calls.mono (HL.out _) ?_
            rintro e' _ ⟨rfl, rfl⟩
            go_wp2_with fail
            refine Calls.mono (HU.out _) ?_
            rintro e' w3 ⟨A2, c2, rfl, hrc, hx⟩
            replace XP := hid (XP.out.then hx)
            have HRC := hid hrc
            clear hx hrc
            go_wp2_with fail
            refine Calls.mono (HFR.out _) ?_
            rintro e' w4 ⟨A1, c1, rfl, hrb, hx⟩
            replace XP := hid (XP.out.then hx)
            replace HRC := hid (HRC.out.keep hx)
            have HRB := hid hrb
            clear hx hrb
            go_wp2_with fail
            refine Calls.mono (HTX.out _ _ _ _ _ HRB.out HRC.out) ?_
            rintro e' w5 ⟨A3, c3, rfl, hrt, hx⟩
            replace XP := hid (XP.out.then hx)
            have HRT := hid hrt
            clear hx hrt
            go_wp2
            go_returns
            exact ⟨A3, c3, by rw [HE.out]; rfl, by rw [HE.out]; exact HRT.out, XP.out⟩
          · have HE := hid (hfr rfl hez)
            have h3 : ((eb : Int) != 0) = true := by rw [bne_iff_ne]; omega
            have h4 : ((eb : Int) == 0) = false := by rw [beq_eq_false_iff_ne]; omega
            clear hck hfr hok hft0 hup hez hbn hcn
            go_enter Tryz.func61, Tryz.ntmps61
            go_wp2_with fail
            refine Calls.mono (CR.out _) ?_
            rintro e' w1 ⟨rfl, hx⟩
            have XP := hid hx
            clear hx
            go_wp2_with fail
            refine Calls.mono (HL.out _) ?_
            rintro e' _ ⟨rfl, rfl⟩
            go_wp2_with fail
            refine Calls.mono (HU.out _) ?_
            rintro e' w3 ⟨A2, c2, rfl, hrc, hx⟩
            replace XP := hid (XP.out.then hx)
            have HRC := hid hrc
            clear hx hrc
            go_wp2_with fail
            refine Calls.mono (HFR.out _) ?_
            rintro e' w4 ⟨A1, c1, rfl, hrb, hx⟩
            replace XP := hid (XP.out.then hx)
            replace HRC := hid (HRC.out.keep hx)
            have HRB := hid hrb
            clear hx hrb
            go_wp2
            go_returns
            exact ⟨none, 0, by rw [HE.out]; rfl, fun h => by rw [HE.out] at h; simp [txs] at h, XP.out⟩
        · have HE := hid (hck hcz)
          have h3 : ((ec : Int) != 0) = true := by rw [bne_iff_ne]; omega
          have h4 : ((ec : Int) == 0) = false := by rw [beq_eq_false_iff_ne]; omega
          clear hck hfr hok hft0 hup hcz hcn
          go_enter Tryz.func61, Tryz.ntmps61
          go_wp2_with fail
          refine Calls.mono (CR.out _) ?_
          rintro e' w1 ⟨rfl, hx⟩
          have XP := hid hx
          clear hx
          go_wp2_with fail
          refine Calls.mono (HL.out _) ?_
          rintro e' _ ⟨rfl, rfl⟩
          go_wp2_with fail
          refine Calls.mono (HU.out _) ?_
          rintro e' w3 ⟨A2, c2, rfl, hrc, hx⟩
          replace XP := hid (XP.out.then hx)
          have HRC := hid hrc
          clear hx hrc
          go_wp2
          go_returns
          exact ⟨none, 0, by rw [HE.out]; rfl, fun h => by rw [HE.out] at h; simp [txs] at h, XP.out⟩
  · have HE := hid (show R = ([], er) by rw [hR, Cod.rbk_vary hrd he])
    have h3 : ((er : Int) != 0) = true := by rw [bne_iff_ne]; omega
    have h4 : ((er : Int) == 0) = false := by rw [beq_eq_false_iff_ne]; omega
    clear hrd hR hs hm he hq
    go_enter Tryz.func61, Tryz.ntmps61
    go_wp2_with fail
    refine Calls.mono (CR.out _) ?_
    rintro e' w1 ⟨rfl, hx⟩
    have XP := hid hx
    clear hx
    go_wp2
    go_returns
    exact ⟨none, 0, by rw [HE.out]; rfl, fun h => by rw [HE.out] at h; simp [txs] at h, XP.out⟩
set_option maxRecDepth 100000 in
set_option maxHeartbeats 2000000 in
theorem bookTexts_any_e (S : ByteArray) (mm : Nat) (w : World) (hs : S.size ≤ 281474976710656) (hm : mm ≤ 64) (hq : mm * Cod.lw (Vary.rd S.data.toList).1 % 8 = 0) :
    Calls Tryz.prog 61 #[.string S, .int .i64 mm] w (TextsOut (Cod.rbk S.data.toList mm).1 (Cod.rbk S.data.toList mm).2 w) := by
  have CR := hid (fun wx => varyOf_any S wx hs)
  obtain ⟨n, k, er, hrd⟩ : ∃ n k er, Vary.rd S.data.toList = (n, k, er) := ⟨_, _, _, rfl⟩
  rw [hrd] at CR
  simp only at CR
  have hmI : (mm : Int) ≤ 64 := by omega
  obtain ⟨R, hR⟩ : ∃ R, R = Cod.rbk S.data.toList mm := ⟨_, rfl⟩
  rw [← hR]
  by_cases he : er = 0
  · subst he
    obtain ⟨g1, g2, g3, g4, _⟩ := Vary.rd_ok (s := S.data.toList) (by rw [hrd])
    rw [hrd] at g1 g2 g3 g4
    simp only at g1 g2 g3 g4
    have hsz : S.data.size = S.size := rfl
    rw [Array.length_toList, hsz] at g2
    have hkI : (k : Int) ≤ 9 := by omega
    have hSzI : (S.size : Int) ≤ 281474976710656 := by omega
    have hkS : (k : Int) ≤ (S.size : Int) := by omega
    by_cases hn64 : 64 < n
    · have HE := hid (show R = ([], 2) by rw [hR, Cod.rbk_many hrd hn64])
      have hnI : (64 : Int) < (n : Int) := by omega
      clear hrd hR hs hm hsz g1 g2 g3 g4 hn64 hq
      go_enter Tryz.func61, Tryz.ntmps61
      go_wp2_with fail
      refine Calls.mono (CR.out _) ?_
      rintro e' w1 ⟨rfl, hx⟩
      have XP := hid hx
      clear hx
      go_wp2
      go_returns
      exact ⟨none, 0, by rw [HE.out]; rfl, fun h => by rw [HE.out] at h; simp [txs] at h, XP.out⟩
    · have hnI : ¬ (64 : Int) < (n : Int) := by omega
      have hn2 : (n : Int) ≤ 64 := by omega
      have hwn : IntKind.i64.wrap (n : Int) = (n : Int) := by rw [IntKind.wrap_i64]; omega
      have hlw := Cod.lw_le (n := n) (by omega)
      have HL := hid (fun wx => bookWidth_any n wx (by omega))
      obtain ⟨lwb, hlwb⟩ : ∃ q, q = Cod.lw n := ⟨_, rfl⟩
      obtain ⟨z, hz⟩ : ∃ z, z = Bits.size mm lwb := ⟨_, rfl⟩
      obtain ⟨p, hp⟩ : ∃ p, p = mm * lwb := ⟨_, rfl⟩
      have hz' : Bits.size mm (Cod.lw n) = z := by rw [hz, hlwb]
      rw [← hlwb] at HL hlw
      have hpl : p ≤ 64 * 7 := by rw [hp]; exact Nat.mul_le_mul hm hlw
      have hpI : (p : Int) ≤ 448 := by omega
      have hlwI : (lwb : Int) ≤ 7 := by omega
      have hmul : (mm : Int) * (lwb : Int) = (p : Int) := by rw [hp, Int.natCast_mul]
      have hz8 : z = (p + 7) / 8 := by rw [hz, hp]; rfl
      have hdiv : ((p : Int) + 7) / 8 = (z : Int) := by omega
      have hzI : (z : Int) ≤ 56 := by omega
      rw [hrd] at hq
      simp only [← hlwb, ← hp] at hq
      have hq2 : (p : Int) % 8 = 0 := by omega
      have hq3 : (p : Int) / 8 = (z : Int) := by omega
      clear hq hdiv
      obtain ⟨r, hr⟩ : ∃ r, r = S.data.toList.drop k := ⟨_, rfl⟩
      have hrl : r.length = S.size - k := by rw [hr, List.length_drop, Array.length_toList, hsz]
      by_cases h5 : r.length < z
      · have HE := hid (show R = ([], 5) by rw [hR, Cod.rbk_none hrd hn64 hr.symm hz' h5])
        have h5I : (S.size : Int) < (k : Int) + (z : Int) := by omega
        clear hrd hR hs hm hsz g1 g2 g3 g4 hn64 hlw hlwb hz hp hz' hpl hz8 hr hrl h5
        go_enter Tryz.func61, Tryz.ntmps61
        go_wp2_with fail
        refine Calls.mono (CR.out _) ?_
        rintro e' w1 ⟨rfl, hx⟩
        have XP := hid hx
        clear hx
        go_wp2_with fail
        refine Calls.mono (HL.out _) ?_
        rintro e' _ ⟨rfl, rfl⟩
        go_wp2
        go_returns
        exact ⟨none, 0, by rw [HE.out]; rfl, fun h => by rw [HE.out] at h; simp [txs] at h, XP.out⟩
      · have h5I : ¬ (S.size : Int) < (k : Int) + (z : Int) := by omega
        have hF := fun wx : World => run_fromto (P := Tryz.prog) (w := wx) Tryz.underlying9 S .i64 .i64 k (k + z) (by omega) (by omega)
        have hT := fun wx : World => run_from (P := Tryz.prog) (w := wx) Tryz.underlying9 S .i64 (k + z) (by omega)
        rw [Nat.add_sub_cancel_left, ← hr] at hF
        rw [← List.drop_drop, ← hr] at hT
        simp only [Int.natCast_add] at hF hT
        have HU := hid (fun wx => show Calls Tryz.prog 58 #[.string ⟨(r.take z).toArray⟩, .int .i64 mm, .int .i64 lwb] wx (NumsOut (Bits.up (r.take z) mm lwb) (Bits.chk (r.take z) mm lwb) wx) from unpackOf_any ⟨(r.take z).toArray⟩ mm lwb wx (by rw [str_size, List.length_take]; omega))
        have HFR := hid (fun wx => show Calls Tryz.prog 62 #[.string ⟨(r.drop z).toArray⟩, .int .i64 n] wx (TextsOut (Front.rdl (r.drop z) n).1 (Front.rdl (r.drop z) n).2 wx) from frontOf_any ⟨(r.drop z).toArray⟩ n wx (by rw [str_size, List.length_drop]; omega))
        unfold NumsOut at HU
        unfold TextsOut at HFR
        have hup0 := Cod.rpk_lt mm (r.take z) lwb
        have hck := Cod.rbk_chk hrd hn64 hr.symm hz' h5
        have hfr := Cod.rbk_front hrd hn64 hr.symm hz' h5
        have hok := Cod.rbk_ok hrd hn64 hr.symm hz' h5
        rw [← hR, ← hlwb] at hck hfr hok
        have hft0 := fun h => Cod.rdl_fit (s := r.drop z) (many := n) h
        obtain ⟨C, hC⟩ : ∃ C, C = Bits.up (r.take z) mm lwb := ⟨_, rfl⟩
        obtain ⟨ec, hec⟩ : ∃ e, e = Bits.chk (r.take z) mm lwb := ⟨_, rfl⟩
        have hup : (∀ x ∈ C, x < 18446744073709551616) ∧ C.length ≤ 64 := by rw [hC]; exact hup0
        rw [← hC] at HU hok
        rw [← hec] at HU hck hfr hok
        obtain ⟨B, eb, hB⟩ : ∃ B eb, Front.rdl (r.drop z) n = (B, eb) := ⟨_, _, rfl⟩
        rw [hB] at HFR hfr hok hft0
        simp only at HFR hfr hok hft0
        obtain ⟨Y1, hY1⟩ : ∃ S : ByteArray, S = ⟨(r.take z).toArray⟩ := ⟨_, rfl⟩
        obtain ⟨Y2, hY2⟩ : ∃ S : ByteArray, S = ⟨(r.drop z).toArray⟩ := ⟨_, rfl⟩
        rw [← hY1] at HU hF
        rw [← hY2] at HFR hT
        obtain ⟨cn, hcn⟩ : ∃ q, q = C.length := ⟨_, rfl⟩
        rw [← hcn] at HU
        have hcnI : (cn : Int) ≤ 64 := by omega
        clear hrd hR hs hsz g1 g2 g3 g4 hn64 hlw hlwb hz hp hz' hpl hz8 hr hrl h5 hC hec hB hY1 hY2 hm hup0
        by_cases hcz : ec = 0
        · subst hcz
          obtain ⟨bn, hbn⟩ : ∃ q, q = B.length := ⟨_, rfl⟩
          rw [← hbn] at HFR
          by_cases hez : eb = 0
          · subst hez
            have HE := hid (hok rfl rfl)
            have hft := hft0 rfl
            have HTX := hid (fun A1 A2 c1 c2 wx (h1 : Rd wx A1 (txs B)) (h2 : Rd wx A2 (u64s C)) => show Calls Tryz.prog 112 #[.slice A1 B.length c1, .slice A2 C.length c2] wx (TextsOut (Dct.txt B C).1 (Dct.txt B C).2 wx) from textsOf_any B C A1 A2 B.length C.length c1 c2 wx rfl rfl h1 h2 hup.1 (by omega) (by omega) (fun x hx => by have := hft.2 x hx; omega))
            unfold TextsOut at HTX
            rw [← hbn, ← hcn] at HTX
            have hbnI : (bn : Int) ≤ 64 := by omega
            clear hck hfr hok hft0 hft hup hbn hcn
            go_enter Tryz.func61, Tryz.ntmps61
            go_wp2_with fail
            refine Calls.mono (CR.out _) ?_
            rintro e' w1 ⟨rfl, hx⟩
            have XP := hid hx
            clear hx
            go_wp2_with fail
            refine Calls.mono (HL.out _) ?_
            rintro e' _ ⟨rfl, rfl⟩
            go_wp2_with fail
            refine Calls.mono (HU.out _) ?_
            rintro e' w3 ⟨A2, c2, rfl, hrc, hx⟩
            replace XP := hid (XP.out.then hx)
            have HRC := hid hrc
            clear hx hrc
            go_wp2_with fail
            refine Calls.mono (HFR.out _) ?_
            rintro e' w4 ⟨A1, c1, rfl, hrb, hx⟩
            replace XP := hid (XP.out.then hx)
            replace HRC := hid (HRC.out.keep hx)
            have HRB := hid hrb
            clear hx hrb
            go_wp2_with fail
            refine Calls.mono (HTX.out _ _ _ _ _ HRB.out HRC.out) ?_
            rintro e' w5 ⟨A3, c3, rfl, hrt, hx⟩
            replace XP := hid (XP.out.then hx)
            have HRT := hid hrt
            clear hx hrt
            go_wp2
            go_returns
            exact ⟨A3, c3, by rw [HE.out]; rfl, by rw [HE.out]; exact HRT.out, XP.out⟩
          · have HE := hid (hfr rfl hez)
            have h3 : ((eb : Int) != 0) = true := by rw [bne_iff_ne]; omega
            have h4 : ((eb : Int) == 0) = false := by rw [beq_eq_false_iff_ne]; omega
            clear hck hfr hok hft0 hup hez hbn hcn
            go_enter Tryz.func61, Tryz.ntmps61
            go_wp2_with fail
            refine Calls.mono (CR.out _) ?_
            rintro e' w1 ⟨rfl, hx⟩
            have XP := hid hx
            clear hx
            go_wp2_with fail
            refine Calls.mono (HL.out _) ?_
            rintro e' _ ⟨rfl, rfl⟩
            go_wp2_with fail
            refine Calls.mono (HU.out _) ?_
            rintro e' w3 ⟨A2, c2, rfl, hrc, hx⟩
            replace XP := hid (XP.out.then hx)
            have HRC := hid hrc
            clear hx hrc
            go_wp2_with fail
            refine Calls.mono (HFR.out _) ?_
            rintro e' w4 ⟨A1, c1, rfl, hrb, hx⟩
            replace XP := hid (XP.out.then hx)
            replace HRC := hid (HRC.out.keep hx)
            have HRB := hid hrb
            clear hx hrb
            go_wp2
            go_returns
            exact ⟨none, 0, by rw [HE.out]; rfl, fun h => by rw [HE.out] at h; simp [txs] at h, XP.out⟩
        · have HE := hid (hck hcz)
          have h3 : ((ec : Int) != 0) = true := by rw [bne_iff_ne]; omega
          have h4 : ((ec : Int) == 0) = false := by rw [beq_eq_false_iff_ne]; omega
          clear hck hfr hok hft0 hup hcz hcn
          go_enter Tryz.func61, Tryz.ntmps61
          go_wp2_with fail
          refine Calls.mono (CR.out _) ?_
          rintro e' w1 ⟨rfl, hx⟩
          have XP := hid hx
          clear hx
          go_wp2_with fail
          refine Calls.mono (HL.out _) ?_
          rintro e' _ ⟨rfl, rfl⟩
          go_wp2_with fail
          refine Calls.mono (HU.out _) ?_
          rintro e' w3 ⟨A2, c2, rfl, hrc, hx⟩
          replace XP := hid (XP.out.then hx)
          have HRC := hid hrc
          clear hx hrc
          go_wp2
          go_returns
          exact ⟨none, 0, by rw [HE.out]; rfl, fun h => by rw [HE.out] at h; simp [txs] at h, XP.out⟩
  · have HE := hid (show R = ([], er) by rw [hR, Cod.rbk_vary hrd he])
    have h3 : ((er : Int) != 0) = true := by rw [bne_iff_ne]; omega
    have h4 : ((er : Int) == 0) = false := by rw [beq_eq_false_iff_ne]; omega
    clear hrd hR hs hm he hq
    go_enter Tryz.func61, Tryz.ntmps61
    go_wp2_with fail
    refine Calls.mono (CR.out _) ?_
    rintro e' w1 ⟨rfl, hx⟩
    have XP := hid hx
    clear hx
    go_wp2
    go_returns
    exact ⟨none, 0, by rw [HE.out]; rfl, fun h => by rw [HE.out] at h; simp [txs] at h, XP.out⟩
theorem bookTexts_any (S : ByteArray) (mm : Nat) (w : World) (hs : S.size ≤ 281474976710656) (hm : mm ≤ 64) :
    Calls Tryz.prog 61 #[.string S, .int .i64 mm] w (TextsOut (Cod.rbk S.data.toList mm).1 (Cod.rbk S.data.toList mm).2 w) := by
  rcases Nat.eq_zero_or_pos (mm * Cod.lw (Vary.rd S.data.toList).1 % 8) with h | h
  · exact bookTexts_any_e S mm w hs hm h
  · exact bookTexts_any_r S mm w hs hm h
set_option maxHeartbeats 1000000 in
theorem textListOf_any (s : ByteArray) (many : Int) (w : World) (hs : s.size ≤ 281474976710656) :
    Calls Tryz.prog 20 #[.string s, .int .i64 many] w (TextsOut (Cod.rtx s.data.toList many).1 (Cod.rtx s.data.toList many).2 w) := by
  by_cases h1 : many < 0
  · rw [Cod.rtx_neg h1]
    go_enter Tryz.func20, Tryz.ntmps20
    go_wp2
    go_returns
    exact ⟨none, 0, rfl, fun h => by simp [txs] at h, ext_refl _⟩
  by_cases h2 : 64 < many
  · rw [Cod.rtx_many h2]
    go_enter Tryz.func20, Tryz.ntmps20
    go_wp2
    go_returns
    exact ⟨none, 0, rfl, fun h => by simp [txs] at h, ext_refl _⟩
  obtain ⟨mm, rfl⟩ := Int.eq_ofNat_of_zero_le (show 0 ≤ many by omega)
  have hmm : mm ≤ 64 := by omega
  cases hd : s.data.toList with
  | nil =>
    rw [Cod.rtx_nil (by omega) (by omega)]
    obtain rfl : s = ⟨#[]⟩ := by
      apply ByteArray.ext; apply Array.ext'; rw [hd]
    clear hd hmm
    go_enter Tryz.func20, Tryz.ntmps20
    go_wp2
    go_returns
    exact ⟨none, 0, rfl, fun h => by simp [txs] at h, ext_refl _⟩
  | cons c t =>
    rw [Cod.rtx_cons (by omega) (by omega), Int.toNat_natCast]
    have hsl : s.size = t.length + 1 := by have := congrArg List.length hd; rw [Array.length_toList] at this; simpa using this
    have hT := fun wx : World => run_from (P := Tryz.prog) (w := wx) Tryz.underlying9 s .i64 1 (by omega)
    have hX := fun wx : World => run_ix0 (P := Tryz.prog) (w := wx) Tryz.underlying9 s .i64 c t hd
    have h11 : ((1 : Nat) : Int) = 1 := rfl
    simp only [hd, List.drop_succ_cons, List.drop_zero, h11] at hT
    have e1 : s.toList.isEmpty = false := by
      have : s.toList = s.data.toList := toList_data s
      rw [this, hd]; rfl
    obtain ⟨TT, hTT⟩ : ∃ S : ByteArray, S = ⟨t.toArray⟩ := ⟨_, rfl⟩
    have htt : t = TT.data.toList := by rw [hTT]
    have hts : TT.size ≤ 281474976710656 := by rw [hTT, str_size]; omega
    have hszI : ((s.size : Int) == 0) = false := by rw [beq_eq_false_iff_ne]; omega
    simp only [← hTT] at hT
    rw [htt]
    clear hTT e1 htt hd hsl hs
    have hc8 : c.toNat < 256 := c.toNat_lt
    obtain h | h | h | h : c.toNat = 5 ∨ c.toNat = 6 ∨ c.toNat = 7 ∨ ¬ (5 ≤ c.toNat ∧ c.toNat ≤ 7) := by omega
    · rw [h] at hX ⊢
      simp (config := {decide := true}) only [if_true, if_false]
      have HC := hid (fun wx => plainOf_any TT mm wx hts hmm)
      clear h hc8 hts hmm
      go_enter Tryz.func20, Tryz.ntmps20
      go_wp2_with fail
      refine Calls.mono (HC.out _) ?_
      rintro e w2 ⟨A, cp, rfl, hrd, hx2⟩
      have HRD := hid hrd
      have HX2 := hid hx2
      clear hrd hx2
      go_wp2
      go_returns
      exact ⟨A, cp, rfl, HRD.out, HX2.out⟩
    · rw [h] at hX ⊢
      simp (config := {decide := true}) only [if_true, if_false]
      have HC := hid (fun wx => bookTexts_any TT mm wx hts hmm)
      clear h hc8 hts hmm
      go_enter Tryz.func20, Tryz.ntmps20
      go_wp2_with fail
      refine Calls.mono (HC.out _) ?_
      rintro e w2 ⟨A, cp, rfl, hrd, hx2⟩
      have HRD := hid hrd
      have HX2 := hid hx2
      clear hrd hx2
      go_wp2
      go_returns
      exact ⟨A, cp, rfl, HRD.out, HX2.out⟩
    · rw [h] at hX ⊢
      simp (config := {decide := true}) only [if_true, if_false]
      have HC := hid (fun wx => frontOf_any TT mm wx hts)
      clear h hc8 hts hmm
      go_enter Tryz.func20, Tryz.ntmps20
      go_wp2_with fail
      refine Calls.mono (HC.out _) ?_
      rintro e w2 ⟨A, cp, rfl, hrd, hx2⟩
      have HRD := hid hrd
      have HX2 := hid hx2
      clear hrd hx2
      go_wp2
      go_returns
      exact ⟨A, cp, rfl, HRD.out, HX2.out⟩
    · rw [if_neg (by omega), if_neg (by omega), if_neg (by omega)]
      clear hts hmm
      generalize c.toNat = z at *
      have q5 : ((z : Int) == 5) = false := by rw [beq_eq_false_iff_ne]; omega
      have q6 : ((z : Int) == 6) = false := by rw [beq_eq_false_iff_ne]; omega
      have q7 : ((z : Int) == 7) = false := by rw [beq_eq_false_iff_ne]; omega
      clear h hc8
      go_enter Tryz.func20, Tryz.ntmps20
      go_wp2
      go_returns
      exact ⟨none, 0, rfl, fun h => by simp [txs] at h, ext_refl _⟩
end Go.Proofs.YtdmmodeplfmpnaaGreat
end
section
namespace Hy.Cod
open Go
theorem rpl_len : ∀ (q : Nat) (s : Tx) (o : List Tx), (rpl q s o).1.length ≤ o.length + q
  | 0, s, o => by rw [rpl]; split <;> simp
  | q + 1, s, o => by
    rw [rpl]
    split
    · simp
    · have := rpl_len q (one s).2.1 (o ++ [(one s).1])
      rw [List.length_append] at this
      simp only [List.length_cons, List.length_nil] at this
      omega
theorem dtx_len (b : List Tx) (c : List Nat) : (Dct.txt b c).1.length ≤ 64 := by
  unfold Dct.txt
  repeat' split
  all_goals first | (simp; done) | (rw [List.length_map]; omega)
theorem rbk_len (s : Tx) (many : Nat) : (rbk s many).1.length ≤ 64 := by
  unfold rbk
  repeat' split
  all_goals first | (simp; done) | exact dtx_len _ _
theorem frd_len (s : Tx) (many : Int) : (Front.rdl s many).1.length ≤ 64 := by
  by_cases h : (Front.rdl s many).2 = 0
  · exact (rdl_fit h).1
  · rw [Front.rdl_err h]; simp
theorem rtx_len (s : Tx) (many : Int) : (rtx s many).1.length ≤ 64 := by
  by_cases h1 : many < 0
  · rw [rtx_neg h1]; simp
  · by_cases h2 : 64 < many
    · rw [rtx_many h2]; simp
    · cases s with
      | nil => rw [rtx_nil (by omega) (by omega)]; simp
      | cons c t =>
        rw [rtx_cons (by omega) (by omega)]
        repeat' split
        · have := rpl_len many.toNat t []; simp at this; omega
        · exact rbk_len _ _
        · exact frd_len _ _
        · simp
theorem wde_len (rd : Tx → Nat → List Nat × Nat) (h : ∀ t k, (rd t k).1.length ≤ 64) (s : Tx) : (wde rd s).1.length ≤ 64 := by
  unfold wde
  cases s with
  | nil => simp
  | cons c t =>
    simp only
    repeat' split
    all_goals first | (simp; done) | exact h _ _
theorem rnm_len (s : Tx) (many : Int) : (rnm s many).1.length ≤ 64 := by
  by_cases h1 : many < 0
  · rw [rnm_neg h1]; simp
  · by_cases h2 : 64 < many
    · rw [rnm_many h2]; simp
    · cases s with
      | nil => rw [rnm_nil (by omega) (by omega)]; simp
      | cons c t =>
        rw [rnm_cons (by omega) (by omega)]
        repeat' split
        · exact wde_len _ (fun t k => (rpk_lt many t k).2) _
        · exact wde_len _ (fun t k => (rhy_lt many t k).2) _
        · exact Dlt.rds_len _ _
        · exact Pat.rdP_len _ _
        · simp
end Hy.Cod
namespace Go.Proofs.YtdmmodeplfmpnaaGreat
open Go.RowKit Hy
set_option maxRecDepth 100000 in
set_option maxHeartbeats 1600000 in
theorem codecNumbers_walk (l : List Nat) (A : Option Addr) (n cap : Nat) (way : Int) (w : World) (hn : l.length = n) (hr : Rd w A (u64s l)) (hcap : n ≤ cap) (hl : ∀ x ∈ l, x < 18446744073709551616) (hnl : n ≤ 1000000000000000) :
    Calls Tryz.prog 3 #[.slice A n cap, .int .i64 way] w fun e w' => e = .returned (.bool true) ∧ Ext w w' := by
  have HB := hid (fun wx => codecBegun_any wx)
  have H1 := hid (cNumbers_any l A n cap way w hn hr hcap hl (by omega))
  have H2 := hid (fun wx (hx : Ext w wx) => bestNumbers_any l A n cap wx hn (hr.keep hx) hcap hl (by omega))
  unfold Cod.nmb at H1
  unfold Cod.bnm at H2
  rw [hn] at H1 H2
  by_cases hw : 1 ≤ way ∧ way ≤ 4
  · by_cases hm : 64 < n
    · rw [if_pos hm] at H2
      rw [if_neg (fun h => h hw), if_pos hm] at H1
      have hmI : (64 : Int) < (n : Int) := by omega
      have hlo : ¬ (way < 1) := by omega
      have hhi : ¬ (4 < way) := by omega
      clear hn hr hnl hcap hl hm hw
      go_enter Tryz.func3, Tryz.ntmps3
      go_wp2_with fail
      refine Calls.mono (H1.out) ?_
      rintro e w1 ⟨rfl, hx⟩
      have Xp := hid hx
      clear hx 
      go_wp2_with fail
      refine Calls.mono (H2.out _ Xp.out) ?_
      rintro e w2 ⟨rfl, hx⟩
      replace Xp := hid (Xp.out.then hx)
      clear hx 
      go_wp2_with fail
      refine Calls.mono (HB.out _) ?_
      rintro e w3 ⟨rfl, hx⟩
      replace Xp := hid (Xp.out.then hx)
      clear hx 
      go_wp2
      go_returns
      exact ⟨rfl, Xp.out⟩
    · rw [if_neg hm] at H2
      rw [if_neg (fun h => h hw), if_neg hm] at H1
      have hmI : ¬ (64 : Int) < (n : Int) := by omega
      have H3 := hid (fun wx (hx : Ext w wx) => bestNumberBytes_any l A n cap wx hn (hr.keep hx) hcap hl (by omega))
      obtain ⟨k, rfl⟩ := Int.eq_ofNat_of_zero_le (show 0 ≤ way by omega)
      rw [Int.toNat_natCast] at H1
      have H4 := hid (fun wx (hx : Ext w wx) => numberBytes_any l A n cap k wx hn (hr.keep hx) hcap hl (by omega) (by omega) (by omega))
      have hlo : ¬ ((k : Int) < 1) := by omega
      have hhi : ¬ (4 < (k : Int)) := by omega
      generalize (⟨(Cod.tg (Cod.nm l) k).toArray⟩ : ByteArray) = S1 at *
      generalize (⟨(Cod.up (Cod.nm l) 1 3).toArray⟩ : ByteArray) = S2 at *
      clear hn hr hnl hcap hl hm hw
      go_enter Tryz.func3, Tryz.ntmps3
      go_wp2_with fail
      refine Calls.mono (H1.out) ?_
      rintro e w1 ⟨rfl, hx⟩
      have Xp := hid hx
      clear hx 
      go_wp2_with fail
      refine Calls.mono (H2.out _ Xp.out) ?_
      rintro e w2 ⟨rfl, hx⟩
      replace Xp := hid (Xp.out.then hx)
      clear hx 
      go_wp2_with fail
      refine Calls.mono (H3.out _ Xp.out) ?_
      rintro e w3 ⟨rfl, hx⟩
      replace Xp := hid (Xp.out.then hx)
      clear hx 
      go_wp2_with fail
      refine Calls.mono (H4.out _ Xp.out) ?_
      rintro e w4 ⟨rfl, hx⟩
      replace Xp := hid (Xp.out.then hx)
      clear hx 
      go_wp2_with fail
      refine Calls.mono (HB.out _) ?_
      rintro e w5 ⟨rfl, hx⟩
      replace Xp := hid (Xp.out.then hx)
      clear hx 
      go_wp2
      go_returns
      exact ⟨rfl, Xp.out⟩
  · rcases (show way < 1 ∨ ¬ way < 1 ∧ 4 < way by omega) with hq | ⟨hq, hq2⟩
    · by_cases hm : 64 < n
      · rw [if_pos hm] at H2
        rw [if_pos hw] at H1
        have hmI : (64 : Int) < (n : Int) := by omega
        clear hn hr hnl hcap hl hm hw
        go_enter Tryz.func3, Tryz.ntmps3
        go_wp2_with fail
        refine Calls.mono (H1.out) ?_
        rintro e w1 ⟨rfl, hx⟩
        have Xp := hid hx
        clear hx 
        go_wp2_with fail
        refine Calls.mono (H2.out _ Xp.out) ?_
        rintro e w2 ⟨rfl, hx⟩
        replace Xp := hid (Xp.out.then hx)
        clear hx 
        go_wp2_with fail
        refine Calls.mono (HB.out _) ?_
        rintro e w3 ⟨rfl, hx⟩
        replace Xp := hid (Xp.out.then hx)
        clear hx 
        go_wp2
        go_returns
        exact ⟨rfl, Xp.out⟩
      · rw [if_neg hm] at H2
        rw [if_pos hw] at H1
        have hmI : ¬ (64 : Int) < (n : Int) := by omega
        have H3 := hid (fun wx (hx : Ext w wx) => bestNumberBytes_any l A n cap wx hn (hr.keep hx) hcap hl (by omega))
        generalize (⟨(Cod.up (Cod.nm l) 1 3).toArray⟩ : ByteArray) = S2 at *
        clear hn hr hnl hcap hl hm hw
        go_enter Tryz.func3, Tryz.ntmps3
        go_wp2_with fail
        refine Calls.mono (H1.out) ?_
        rintro e w1 ⟨rfl, hx⟩
        have Xp := hid hx
        clear hx 
        go_wp2_with fail
        refine Calls.mono (H2.out _ Xp.out) ?_
        rintro e w2 ⟨rfl, hx⟩
        replace Xp := hid (Xp.out.then hx)
        clear hx 
        go_wp2_with fail
        refine Calls.mono (H3.out _ Xp.out) ?_
        rintro e w3 ⟨rfl, hx⟩
        replace Xp := hid (Xp.out.then hx)
        clear hx 
        go_wp2_with fail
        refine Calls.mono (HB.out _) ?_
        rintro e w4 ⟨rfl, hx⟩
        replace Xp := hid (Xp.out.then hx)
        clear hx 
        go_wp2
        go_returns
        exact ⟨rfl, Xp.out⟩
    · by_cases hm : 64 < n
      · rw [if_pos hm] at H2
        rw [if_pos hw] at H1
        have hmI : (64 : Int) < (n : Int) := by omega
        clear hn hr hnl hcap hl hm hw
        go_enter Tryz.func3, Tryz.ntmps3
        go_wp2_with fail
        refine Calls.mono (H1.out) ?_
        rintro e w1 ⟨rfl, hx⟩
        have Xp := hid hx
        clear hx 
        go_wp2_with fail
        refine Calls.mono (H2.out _ Xp.out) ?_
        rintro e w2 ⟨rfl, hx⟩
        replace Xp := hid (Xp.out.then hx)
        clear hx 
        go_wp2_with fail
        refine Calls.mono (HB.out _) ?_
        rintro e w3 ⟨rfl, hx⟩
        replace Xp := hid (Xp.out.then hx)
        clear hx 
        go_wp2
        go_returns
        exact ⟨rfl, Xp.out⟩
      · rw [if_neg hm] at H2
        rw [if_pos hw] at H1
        have hmI : ¬ (64 : Int) < (n : Int) := by omega
        have H3 := hid (fun wx (hx : Ext w wx) => bestNumberBytes_any l A n cap wx hn (hr.keep hx) hcap hl (by omega))
        generalize (⟨(Cod.up (Cod.nm l) 1 3).toArray⟩ : ByteArray) = S2 at *
        clear hn hr hnl hcap hl hm hw
        go_enter Tryz.func3, Tryz.ntmps3
        go_wp2_with fail
        refine Calls.mono (H1.out) ?_
        rintro e w1 ⟨rfl, hx⟩
        have Xp := hid hx
        clear hx 
        go_wp2_with fail
        refine Calls.mono (H2.out _ Xp.out) ?_
        rintro e w2 ⟨rfl, hx⟩
        replace Xp := hid (Xp.out.then hx)
        clear hx 
        go_wp2_with fail
        refine Calls.mono (H3.out _ Xp.out) ?_
        rintro e w3 ⟨rfl, hx⟩
        replace Xp := hid (Xp.out.then hx)
        clear hx 
        go_wp2_with fail
        refine Calls.mono (HB.out _) ?_
        rintro e w4 ⟨rfl, hx⟩
        replace Xp := hid (Xp.out.then hx)
        clear hx 
        go_wp2
        go_returns
        exact ⟨rfl, Xp.out⟩
set_option maxRecDepth 100000 in
set_option maxHeartbeats 1600000 in
theorem codecTexts_walk (l : List (List UInt8)) (A : Option Addr) (n cap : Nat) (way : Int) (w : World) (hn : l.length = n) (hr : Rd w A (txs l)) (hnl : n ≤ 100000000000000) :
    Calls Tryz.prog 7 #[.slice A n cap, .int .i64 way] w fun e w' => e = .returned (.bool true) ∧ Ext w w' := by
  have HB := hid (fun wx => codecBegun_any wx)
  have H1 := hid (cTexts_any l A n cap way w hn hr (by omega))
  have H2 := hid (fun wx (hx : Ext w wx) => bestTexts_any l A n cap wx hn (hr.keep hx) (by omega))
  have HM := hid (fun wx (hx : Ext w wx) => manyTexts_any l A n cap wx hn (hr.keep hx) (by omega))
  have hme := Dct.mny_eq l
  rw [hn] at hme
  rw [← hme] at HM
  unfold Cod.txb at H1
  unfold Cod.btx at H2
  by_cases hw : 5 ≤ way ∧ way ≤ 7
  · by_cases hm : Dct.mny l = true
    · rw [if_pos hm] at H2
      rw [if_neg (fun h => h hw), if_pos hm] at H1
      rw [hm] at HM
      have hlo : ¬ (way < 5) := by omega
      have hhi : ¬ (7 < way) := by omega
      clear hn hr hnl hme hm hw
      go_enter Tryz.func7, Tryz.ntmps7
      go_wp2_with fail
      refine Calls.mono (H1.out) ?_
      rintro e w1 ⟨rfl, hx⟩
      have Xp := hid hx
      clear hx 
      go_wp2_with fail
      refine Calls.mono (H2.out _ Xp.out) ?_
      rintro e w2 ⟨rfl, hx⟩
      replace Xp := hid (Xp.out.then hx)
      clear hx 
      go_wp2_with fail
      refine Calls.mono (HM.out _ Xp.out) ?_
      rintro e _ ⟨rfl, rfl⟩
      go_wp2_with fail
      refine Calls.mono (HB.out _) ?_
      rintro e w4 ⟨rfl, hx⟩
      replace Xp := hid (Xp.out.then hx)
      clear hx 
      go_wp2
      go_returns
      exact ⟨rfl, Xp.out⟩
    · rw [if_neg hm] at H2
      rw [if_neg (fun h => h hw), if_neg hm] at H1
      rw [show Dct.mny l = false by simpa using hm] at HM
      obtain ⟨g1, g2⟩ := Dct.mny_false (by simpa using hm)
      have H3 := hid (fun wx (hx : Ext w wx) => bestTextBytes_any l A n cap wx hn (hr.keep hx) g2 (by omega))
      obtain ⟨k, rfl⟩ := Int.eq_ofNat_of_zero_le (show 0 ≤ way by omega)
      rw [Int.toNat_natCast] at H1
      have H4 := hid (fun wx (hx : Ext w wx) => textBytes_any l A n cap k wx hn (hr.keep hx) g2 (by omega) (by omega) (by omega))
      have hlo : ¬ ((k : Int) < 5) := by omega
      have hhi : ¬ (7 < (k : Int)) := by omega
      generalize (⟨(Cod.tg (Cod.tx l) k).toArray⟩ : ByteArray) = S1 at *
      generalize (⟨(Cod.up (Cod.tx l) 5 2).toArray⟩ : ByteArray) = S2 at *
      clear hn hr hnl hme g1 g2 hm hw
      go_enter Tryz.func7, Tryz.ntmps7
      go_wp2_with fail
      refine Calls.mono (H1.out) ?_
      rintro e w1 ⟨rfl, hx⟩
      have Xp := hid hx
      clear hx 
      go_wp2_with fail
      refine Calls.mono (H2.out _ Xp.out) ?_
      rintro e w2 ⟨rfl, hx⟩
      replace Xp := hid (Xp.out.then hx)
      clear hx 
      go_wp2_with fail
      refine Calls.mono (HM.out _ Xp.out) ?_
      rintro e _ ⟨rfl, rfl⟩
      go_wp2_with fail
      refine Calls.mono (H3.out _ Xp.out) ?_
      rintro e w4 ⟨rfl, hx⟩
      replace Xp := hid (Xp.out.then hx)
      clear hx 
      go_wp2_with fail
      refine Calls.mono (H4.out _ Xp.out) ?_
      rintro e w5 ⟨rfl, hx⟩
      replace Xp := hid (Xp.out.then hx)
      clear hx 
      go_wp2_with fail
      refine Calls.mono (HB.out _) ?_
      rintro e w6 ⟨rfl, hx⟩
      replace Xp := hid (Xp.out.then hx)
      clear hx 
      go_wp2
      go_returns
      exact ⟨rfl, Xp.out⟩
  · rcases (show way < 5 ∨ ¬ way < 5 ∧ 7 < way by omega) with hq | ⟨hq, hq2⟩
    · by_cases hm : Dct.mny l = true
      · rw [if_pos hm] at H2
        rw [if_pos hw] at H1
        rw [hm] at HM
        clear hn hr hnl hme hm hw
        go_enter Tryz.func7, Tryz.ntmps7
        go_wp2_with fail
        refine Calls.mono (H1.out) ?_
        rintro e w1 ⟨rfl, hx⟩
        have Xp := hid hx
        clear hx 
        go_wp2_with fail
        refine Calls.mono (H2.out _ Xp.out) ?_
        rintro e w2 ⟨rfl, hx⟩
        replace Xp := hid (Xp.out.then hx)
        clear hx 
        go_wp2_with fail
        refine Calls.mono (HM.out _ Xp.out) ?_
        rintro e _ ⟨rfl, rfl⟩
        go_wp2_with fail
        refine Calls.mono (HB.out _) ?_
        rintro e w4 ⟨rfl, hx⟩
        replace Xp := hid (Xp.out.then hx)
        clear hx 
        go_wp2
        go_returns
        exact ⟨rfl, Xp.out⟩
      · rw [if_neg hm] at H2
        rw [if_pos hw] at H1
        rw [show Dct.mny l = false by simpa using hm] at HM
        obtain ⟨g1, g2⟩ := Dct.mny_false (by simpa using hm)
        have H3 := hid (fun wx (hx : Ext w wx) => bestTextBytes_any l A n cap wx hn (hr.keep hx) g2 (by omega))
        generalize (⟨(Cod.up (Cod.tx l) 5 2).toArray⟩ : ByteArray) = S2 at *
        clear hn hr hnl hme g1 g2 hm hw
        go_enter Tryz.func7, Tryz.ntmps7
        go_wp2_with fail
        refine Calls.mono (H1.out) ?_
        rintro e w1 ⟨rfl, hx⟩
        have Xp := hid hx
        clear hx 
        go_wp2_with fail
        refine Calls.mono (H2.out _ Xp.out) ?_
        rintro e w2 ⟨rfl, hx⟩
        replace Xp := hid (Xp.out.then hx)
        clear hx 
        go_wp2_with fail
        refine Calls.mono (HM.out _ Xp.out) ?_
        rintro e _ ⟨rfl, rfl⟩
        go_wp2_with fail
        refine Calls.mono (H3.out _ Xp.out) ?_
        rintro e w4 ⟨rfl, hx⟩
        replace Xp := hid (Xp.out.then hx)
        clear hx 
        go_wp2_with fail
        refine Calls.mono (HB.out _) ?_
        rintro e w5 ⟨rfl, hx⟩
        replace Xp := hid (Xp.out.then hx)
        clear hx 
        go_wp2
        go_returns
        exact ⟨rfl, Xp.out⟩
    · by_cases hm : Dct.mny l = true
      · rw [if_pos hm] at H2
        rw [if_pos hw] at H1
        rw [hm] at HM
        clear hn hr hnl hme hm hw
        go_enter Tryz.func7, Tryz.ntmps7
        go_wp2_with fail
        refine Calls.mono (H1.out) ?_
        rintro e w1 ⟨rfl, hx⟩
        have Xp := hid hx
        clear hx 
        go_wp2_with fail
        refine Calls.mono (H2.out _ Xp.out) ?_
        rintro e w2 ⟨rfl, hx⟩
        replace Xp := hid (Xp.out.then hx)
        clear hx 
        go_wp2_with fail
        refine Calls.mono (HM.out _ Xp.out) ?_
        rintro e _ ⟨rfl, rfl⟩
        go_wp2_with fail
        refine Calls.mono (HB.out _) ?_
        rintro e w4 ⟨rfl, hx⟩
        replace Xp := hid (Xp.out.then hx)
        clear hx 
        go_wp2
        go_returns
        exact ⟨rfl, Xp.out⟩
      · rw [if_neg hm] at H2
        rw [if_pos hw] at H1
        rw [show Dct.mny l = false by simpa using hm] at HM
        obtain ⟨g1, g2⟩ := Dct.mny_false (by simpa using hm)
        have H3 := hid (fun wx (hx : Ext w wx) => bestTextBytes_any l A n cap wx hn (hr.keep hx) g2 (by omega))
        generalize (⟨(Cod.up (Cod.tx l) 5 2).toArray⟩ : ByteArray) = S2 at *
        clear hn hr hnl hme g1 g2 hm hw
        go_enter Tryz.func7, Tryz.ntmps7
        go_wp2_with fail
        refine Calls.mono (H1.out) ?_
        rintro e w1 ⟨rfl, hx⟩
        have Xp := hid hx
        clear hx 
        go_wp2_with fail
        refine Calls.mono (H2.out _ Xp.out) ?_
        rintro e w2 ⟨rfl, hx⟩
        replace Xp := hid (Xp.out.then hx)
        clear hx 
        go_wp2_with fail
        refine Calls.mono (HM.out _ Xp.out) ?_
        rintro e _ ⟨rfl, rfl⟩
        go_wp2_with fail
        refine Calls.mono (H3.out _ Xp.out) ?_
        rintro e w4 ⟨rfl, hx⟩
        replace Xp := hid (Xp.out.then hx)
        clear hx 
        go_wp2_with fail
        refine Calls.mono (HB.out _) ?_
        rintro e w5 ⟨rfl, hx⟩
        replace Xp := hid (Xp.out.then hx)
        clear hx 
        go_wp2
        go_returns
        exact ⟨rfl, Xp.out⟩
set_option maxRecDepth 100000 in
set_option maxHeartbeats 1600000 in
theorem codecReads_walk (s : ByteArray) (many : Int) (w : World) (hs : s.size ≤ 281474976710656) :
    Calls Tryz.prog 4 #[.string s, .int .i64 many] w fun e w' => e = .returned (.bool true) ∧ Ext w w' := by
  have HB := hid (fun wx => codecBegun_any wx)
  have H1 := hid (fun wx => readNumbers_any s many wx hs)
  have H2 := hid (fun wx => readTexts_any s many wx hs)
  have H3 := hid (fun wx => numbersOf_any s many wx hs)
  have H4 := hid (fun wx => textListOf_any s many wx hs)
  have hl1 := Cod.rnm_len s.data.toList many
  have hl2 := Cod.rtx_len s.data.toList many
  unfold NumsOut at H1 H3
  unfold TextsOut at H2 H4
  generalize Cod.rnm s.data.toList many = R1 at *
  generalize Cod.rtx s.data.toList many = R2 at *
  obtain ⟨L1, e1⟩ := R1
  obtain ⟨L2, e2⟩ := R2
  simp only at H1 H2 H3 H4 hl1 hl2
  have HSN := hid (fun A B ca cb wx (h1 : Rd wx A (u64s L1)) (h2 : Rd wx B (u64s L1)) => sameNums_any L1 L1 A B L1.length L1.length ca cb wx rfl rfl h1 h2 (by omega))
  have HST := hid (fun A B ca cb wx (h1 : Rd wx A (txs L2)) (h2 : Rd wx B (txs L2)) => sameTexts_any L2 L2 A B L2.length L2.length ca cb wx rfl rfl h1 h2 (by omega))
  rw [show sameNums L1 L1 = true from decide_eq_true rfl] at HSN
  rw [show sameTexts L2 L2 = true from decide_eq_true rfl] at HST
  generalize L1.length = n1 at *
  generalize L2.length = n2 at *
  clear hs hl1 hl2
  go_enter Tryz.func4, Tryz.ntmps4
  go_wp2_with fail
  refine Calls.mono (H1.out _) ?_
  rintro e w1 ⟨A1, c1, rfl, h1, hx⟩
  have Xp := hid hx
  have R1 := hid h1
  clear hx h1
  go_wp2_with fail
  refine Calls.mono (H2.out _) ?_
  rintro e w2 ⟨A2, c2, rfl, h1, hx⟩
  replace Xp := hid (Xp.out.then hx)
  replace R1 := hid (R1.out.keep hx)
  have R2 := hid h1
  clear hx h1
  go_wp2_with fail
  refine Calls.mono (H3.out _) ?_
  rintro e w3 ⟨A3, c3, rfl, h1, hx⟩
  replace Xp := hid (Xp.out.then hx)
  replace R1 := hid (R1.out.keep hx)
  replace R2 := hid (R2.out.keep hx)
  have R3 := hid h1
  clear hx h1
  go_wp2_with fail
  refine Calls.mono (H4.out _) ?_
  rintro e w4 ⟨A4, c4, rfl, h1, hx⟩
  replace Xp := hid (Xp.out.then hx)
  replace R1 := hid (R1.out.keep hx)
  replace R2 := hid (R2.out.keep hx)
  replace R3 := hid (R3.out.keep hx)
  have R4 := hid h1
  clear hx h1
  go_wp2_with fail
  refine Calls.mono (HB.out _) ?_
  rintro e w5 ⟨rfl, hx⟩
  replace Xp := hid (Xp.out.then hx)
  replace R1 := hid (R1.out.keep hx)
  replace R2 := hid (R2.out.keep hx)
  replace R3 := hid (R3.out.keep hx)
  replace R4 := hid (R4.out.keep hx)
  clear hx 
  go_wp2_with fail
  refine Calls.mono (HSN.out _ _ _ _ _ R1.out R3.out) ?_
  rintro e w6 ⟨rfl, hx⟩
  replace Xp := hid (Xp.out.then hx)
  replace R1 := hid (R1.out.keep hx)
  replace R2 := hid (R2.out.keep hx)
  replace R3 := hid (R3.out.keep hx)
  replace R4 := hid (R4.out.keep hx)
  clear hx 
  go_wp2_with fail
  refine Calls.mono (HST.out _ _ _ _ _ R2.out R4.out) ?_
  rintro e w7 ⟨rfl, hx⟩
  replace Xp := hid (Xp.out.then hx)
  replace R1 := hid (R1.out.keep hx)
  replace R2 := hid (R2.out.keep hx)
  replace R3 := hid (R3.out.keep hx)
  replace R4 := hid (R4.out.keep hx)
  clear hx 
  go_wp2
  go_returns
  exact ⟨rfl, Xp.out⟩
end Go.Proofs.YtdmmodeplfmpnaaGreat
end
section
namespace Hy.Cod
open Go
theorem ofNat_small {k : Nat} (h : k < 256) : (UInt8.ofNat k).toNat = k := by simp; omega
theorem wde_rd {rd : Tx → Nat → List Nat × Nat} {k : Nat} {t : Tx} {l : List Nat} (hk : k < 256) (h : rd t k = (l, 0)) (hw : Bits.width l = k) : wde rd (UInt8.ofNat k :: t) = (l, 0) := by
  have h1 : (UInt8.ofNat k).toNat = k := ofNat_small hk
  rw [wde_ok (by rw [h1, h]) (by rw [h1, h]; exact hw), h1, h]
theorem rnm_tg (l : List Nat) (k : Nat) (hn : l.length ≤ 64) (hl : ∀ x ∈ l, x < 18446744073709551616) (h1 : 1 ≤ k) (h4 : k ≤ 4) : rnm (tg (nm l) k) l.length = (l, 0) := by
  obtain ⟨w1, w2⟩ := width_fit l hl
  unfold tg
  rw [rnm_cons (by omega) (by omega), ofNat_small (by omega)]
  obtain rfl | rfl | rfl | rfl : k = 1 ∨ k = 2 ∨ k = 3 ∨ k = 4 := by omega
  · rw [if_pos rfl, nm1]
    refine wde_rd (by omega) ?_ rfl
    have hc := Bits.chk_packed w1 hn w2
    show (Bits.up _ _ _, Bits.chk _ _ _) = _
    rw [hc, Bits.up_ok _ _ _ hc, Int.toNat_natCast, Int.toNat_natCast, Bits.unp_packed l _ w2]
  · rw [if_neg (by decide), if_pos rfl, nm2]
    refine wde_rd (by omega) ?_ rfl
    have := Hyb.rdl_raw w1 hn w2 []
    rw [List.append_nil, if_pos rfl] at this
    exact this
  · rw [if_neg (by decide), if_neg (by decide), if_pos rfl, nm3]
    exact Dlt.rds_wrt l hn hl
  · rw [if_neg (by decide), if_neg (by decide), if_neg (by decide), if_pos rfl, nm4]
    exact Pat.rdP_bys l hn hl
theorem rnm_up (l : List Nat) (hn : l.length ≤ 64) (hl : ∀ x ∈ l, x < 18446744073709551616) : rnm (up (nm l) 1 3) l.length = (l, 0) := by
  obtain ⟨j, hj, e⟩ := up_one (nm l) 1 3
  rw [e]; exact rnm_tg l _ hn hl (by omega) (by omega)
theorem rbk_bok (l : List Tx) (hn : l.length ≤ 64) (hl : ∀ s ∈ l, s.length ≤ 16) : rbk (bok l) l.length = (l, 0) := by
  have hb := Dct.bk_len l
  have hcf := cds_fit l hn
  have hcl := Dct.cds_len l
  have hlw := lw_le (n := (Dct.bk l).length) (by omega)
  have hrd : Vary.rd (bok l) = ((Dct.bk l).length, Vary.beh (Dct.bk l).length + 1, 0) := by rw [bok_eq, List.append_assoc]; exact Vary.rd_wr _ _ (by omega)
  have hdr : (bok l).drop (Vary.beh (Dct.bk l).length + 1) = Bits.packed (Dct.cds l) (lw (Dct.bk l).length) ++ Front.bytes (Dct.bk l) := by rw [bok_eq, List.append_assoc]; exact List.drop_left' (Vary.wr_len _)
  have hpl : (Bits.packed (Dct.cds l) (lw (Dct.bk l).length)).length = Bits.size l.length (lw (Dct.bk l).length) := by rw [Bits.packed_len, hcl]
  have hck := Bits.chk_packed (l := Dct.cds l) (w := lw (Dct.bk l).length) (by omega) (by rw [hcl]; exact hn) hcf
  rw [hcl] at hck
  have htk : (Bits.packed (Dct.cds l) (lw (Dct.bk l).length) ++ Front.bytes (Dct.bk l)).take (Bits.size l.length (lw (Dct.bk l).length)) = Bits.packed (Dct.cds l) (lw (Dct.bk l).length) := List.take_left' hpl
  have hdp : (Bits.packed (Dct.cds l) (lw (Dct.bk l).length) ++ Front.bytes (Dct.bk l)).drop (Bits.size l.length (lw (Dct.bk l).length)) = Front.bytes (Dct.bk l) := List.drop_left' hpl
  have hfr := Front.rdl_bytes (Dct.bk l) (by omega) ((Front.fitB_iff _).2 (bk_fit l hl))
  rw [rbk_ok hrd (by omega) hdr rfl (by rw [List.length_append, hpl]; omega) (by rw [htk]; exact hck) (by rw [hdp, hfr]), htk, hdp, hfr, Bits.up_ok _ _ _ hck, Int.toNat_natCast, Int.toNat_natCast]
  have := Bits.unp_packed (Dct.cds l) (lw (Dct.bk l).length) hcf
  rw [hcl] at this
  rw [this]
  exact Dct.txt_back l (mny_of hn hl)
theorem rtx_tg (l : List Tx) (k : Nat) (hn : l.length ≤ 64) (hl : ∀ s ∈ l, s.length ≤ 16) (h1 : 5 ≤ k) (h4 : k ≤ 7) : rtx (tg (tx l) k) l.length = (l, 0) := by
  unfold tg
  rw [rtx_cons (by omega) (by omega), ofNat_small (by omega), Int.toNat_natCast]
  obtain rfl | rfl | rfl : k = 5 ∨ k = 6 ∨ k = 7 := by omega
  · rw [if_pos rfl, tx5, rpl_pln l [] hl, List.nil_append]
  · rw [if_neg (by decide), if_pos rfl, tx6]
    exact rbk_bok l hn hl
  · rw [if_neg (by decide), if_neg (by decide), if_pos rfl, tx7]
    exact Front.rdl_bytes l hn ((Front.fitB_iff _).2 hl)
theorem rtx_up (l : List Tx) (hn : l.length ≤ 64) (hl : ∀ s ∈ l, s.length ≤ 16) : rtx (up (tx l) 5 2) l.length = (l, 0) := by
  obtain ⟨j, hj, e⟩ := up_one (tx l) 5 2
  rw [e]; exact rtx_tg l _ hn hl (by omega) (by omega)
end Hy.Cod
namespace Go.Proofs.YtdmmodeplfmpnaaGreat
open Go.RowKit Hy
set_option maxRecDepth 100000 in
set_option maxHeartbeats 1600000 in
theorem codecBack_walk (l : List Nat) (A : Option Addr) (n cap : Nat) (way : Int) (w : World) (hn : l.length = n) (hr : Rd w A (u64s l)) (hcap : n ≤ cap) (hl : ∀ x ∈ l, x < 18446744073709551616) (hnl : n ≤ 1000000000000000) :
    Calls Tryz.prog 5 #[.slice A n cap, .int .i64 way] w fun e w' => e = .returned (.bool true) ∧ Ext w w' := by
  have HB := hid (fun wx => codecBegun_any wx)
  have H1 := hid (cNumbers_any l A n cap way w hn hr hcap hl (by omega))
  have H2 := hid (fun wx (hx : Ext w wx) => bestNumbers_any l A n cap wx hn (hr.keep hx) hcap hl (by omega))
  unfold Cod.nmb at H1
  unfold Cod.bnm at H2
  rw [hn] at H1 H2
  by_cases hw : 1 ≤ way ∧ way ≤ 4
  · by_cases hm : 64 < n
    · rw [if_pos hm] at H2
      rw [if_neg (fun h => h hw), if_pos hm] at H1
      clear hn hr hnl hcap hl hm hw
      go_enter Tryz.func5, Tryz.ntmps5
      go_wp2_with fail
      refine Calls.mono (H1.out) ?_
      rintro e w1 ⟨rfl, hx⟩
      have Xp := hid hx
      clear hx 
      go_wp2_with fail
      refine Calls.mono (H2.out _ Xp.out) ?_
      rintro e w2 ⟨rfl, hx⟩
      replace Xp := hid (Xp.out.then hx)
      clear hx 
      go_wp2_with fail
      refine Calls.mono (HB.out _) ?_
      rintro e w3 ⟨rfl, hx⟩
      replace Xp := hid (Xp.out.then hx)
      clear hx 
      go_wp2
      go_returns
      exact ⟨rfl, Xp.out⟩
    · rw [if_neg hm] at H2
      rw [if_neg (fun h => h hw), if_neg hm] at H1
      have g1 : l.length ≤ 64 := by omega
      have HS := hid (fun B cb wx (hx : Ext w wx) (h : Rd wx B (u64s l)) => sameNums_any l l B A n n cb cap wx hn hn h (hr.keep hx) (by omega))
      rw [show sameNums l l = true from decide_eq_true rfl] at HS
      have hlu := Cod.up_len (Cod.nm l) 1 3 2000 (fun j => Cod.nm_len l j g1 hl)
      have HR := hid (fun wx => readNumbers_of (Cod.up (Cod.nm l) 1 3) l.length _ _ wx (by omega) (Cod.rnm_up l g1 hl))
      unfold NumsOut at HR
      rw [hn] at HR
      obtain ⟨k, rfl⟩ := Int.eq_ofNat_of_zero_le (show 0 ≤ way by omega)
      rw [Int.toNat_natCast] at H1
      have HR2 := hid (fun wx => readNumbers_of (Cod.tg (Cod.nm l) k) l.length _ _ wx (by rw [Cod.tg_len]; have := Cod.nm_len l k g1 hl; omega) (Cod.rnm_tg l k g1 hl (by omega) (by omega)))
      unfold NumsOut at HR2
      rw [hn] at HR2
      generalize (⟨(Cod.tg (Cod.nm l) k).toArray⟩ : ByteArray) = S1 at *
      generalize (⟨(Cod.up (Cod.nm l) 1 3).toArray⟩ : ByteArray) = S2 at *
      clear hn hr hnl hcap hl hlu g1 hm hw
      go_enter Tryz.func5, Tryz.ntmps5
      go_wp2_with fail
      refine Calls.mono (H1.out) ?_
      rintro e w1 ⟨rfl, hx⟩
      have Xp := hid hx
      clear hx 
      go_wp2_with fail
      refine Calls.mono (H2.out _ Xp.out) ?_
      rintro e w2 ⟨rfl, hx⟩
      replace Xp := hid (Xp.out.then hx)
      clear hx 
      go_wp2_with fail
      refine Calls.mono (HB.out _) ?_
      rintro e w3 ⟨rfl, hx⟩
      replace Xp := hid (Xp.out.then hx)
      clear hx 
      go_wp2_with fail
      refine Calls.mono (HR.out _) ?_
      rintro e w4 ⟨B, cb, rfl, h1, hx⟩
      replace Xp := hid (Xp.out.then hx)
      have RB := hid h1
      clear hx h1
      go_wp2_with fail
      refine Calls.mono (HS.out _ _ _ Xp.out RB.out) ?_
      rintro e w5 ⟨rfl, hx⟩
      replace Xp := hid (Xp.out.then hx)
      replace RB := hid (RB.out.keep hx)
      clear hx 
      go_wp2_with fail
      refine Calls.mono (HR2.out _) ?_
      rintro e w6 ⟨B2, cb2, rfl, h1, hx⟩
      replace Xp := hid (Xp.out.then hx)
      have RC := hid h1
      clear hx h1
      go_wp2_with fail
      refine Calls.mono (HS.out _ _ _ Xp.out RC.out) ?_
      rintro e w7 ⟨rfl, hx⟩
      replace Xp := hid (Xp.out.then hx)
      replace RC := hid (RC.out.keep hx)
      clear hx 
      go_wp2
      go_returns
      exact ⟨rfl, Xp.out⟩
  · by_cases hm : 64 < n
    · rw [if_pos hm] at H2
      rw [if_pos hw] at H1
      clear hn hr hnl hcap hl hm hw
      go_enter Tryz.func5, Tryz.ntmps5
      go_wp2_with fail
      refine Calls.mono (H1.out) ?_
      rintro e w1 ⟨rfl, hx⟩
      have Xp := hid hx
      clear hx 
      go_wp2_with fail
      refine Calls.mono (H2.out _ Xp.out) ?_
      rintro e w2 ⟨rfl, hx⟩
      replace Xp := hid (Xp.out.then hx)
      clear hx 
      go_wp2_with fail
      refine Calls.mono (HB.out _) ?_
      rintro e w3 ⟨rfl, hx⟩
      replace Xp := hid (Xp.out.then hx)
      clear hx 
      go_wp2
      go_returns
      exact ⟨rfl, Xp.out⟩
    · rw [if_neg hm] at H2
      rw [if_pos hw] at H1
      have g1 : l.length ≤ 64 := by omega
      have HS := hid (fun B cb wx (hx : Ext w wx) (h : Rd wx B (u64s l)) => sameNums_any l l B A n n cb cap wx hn hn h (hr.keep hx) (by omega))
      rw [show sameNums l l = true from decide_eq_true rfl] at HS
      have hlu := Cod.up_len (Cod.nm l) 1 3 2000 (fun j => Cod.nm_len l j g1 hl)
      have HR := hid (fun wx => readNumbers_of (Cod.up (Cod.nm l) 1 3) l.length _ _ wx (by omega) (Cod.rnm_up l g1 hl))
      unfold NumsOut at HR
      rw [hn] at HR
      generalize (⟨(Cod.up (Cod.nm l) 1 3).toArray⟩ : ByteArray) = S2 at *
      clear hn hr hnl hcap hl hlu g1 hm hw
      go_enter Tryz.func5, Tryz.ntmps5
      go_wp2_with fail
      refine Calls.mono (H1.out) ?_
      rintro e w1 ⟨rfl, hx⟩
      have Xp := hid hx
      clear hx 
      go_wp2_with fail
      refine Calls.mono (H2.out _ Xp.out) ?_
      rintro e w2 ⟨rfl, hx⟩
      replace Xp := hid (Xp.out.then hx)
      clear hx 
      go_wp2_with fail
      refine Calls.mono (HB.out _) ?_
      rintro e w3 ⟨rfl, hx⟩
      replace Xp := hid (Xp.out.then hx)
      clear hx 
      go_wp2_with fail
      refine Calls.mono (HR.out _) ?_
      rintro e w4 ⟨B, cb, rfl, h1, hx⟩
      replace Xp := hid (Xp.out.then hx)
      have RB := hid h1
      clear hx h1
      go_wp2_with fail
      refine Calls.mono (HS.out _ _ _ Xp.out RB.out) ?_
      rintro e w5 ⟨rfl, hx⟩
      replace Xp := hid (Xp.out.then hx)
      replace RB := hid (RB.out.keep hx)
      clear hx 
      go_wp2
      go_returns
      exact ⟨rfl, Xp.out⟩
set_option maxRecDepth 100000 in
set_option maxHeartbeats 1600000 in
theorem codecTextsBack_walk (l : List (List UInt8)) (A : Option Addr) (n cap : Nat) (way : Int) (w : World) (hn : l.length = n) (hr : Rd w A (txs l)) (hnl : n ≤ 100000000000000) :
    Calls Tryz.prog 8 #[.slice A n cap, .int .i64 way] w fun e w' => e = .returned (.bool true) ∧ Ext w w' := by
  have HB := hid (fun wx => codecBegun_any wx)
  have H1 := hid (cTexts_any l A n cap way w hn hr (by omega))
  have H2 := hid (fun wx (hx : Ext w wx) => bestTexts_any l A n cap wx hn (hr.keep hx) (by omega))
  unfold Cod.txb at H1
  unfold Cod.btx at H2
  by_cases hw : 5 ≤ way ∧ way ≤ 7
  · by_cases hm : Dct.mny l = true
    · rw [if_pos hm] at H2
      rw [if_neg (fun h => h hw), if_pos hm] at H1
      clear hn hr hnl hm hw
      go_enter Tryz.func8, Tryz.ntmps8
      go_wp2_with fail
      refine Calls.mono (H1.out) ?_
      rintro e w1 ⟨rfl, hx⟩
      have Xp := hid hx
      clear hx 
      go_wp2_with fail
      refine Calls.mono (H2.out _ Xp.out) ?_
      rintro e w2 ⟨rfl, hx⟩
      replace Xp := hid (Xp.out.then hx)
      clear hx 
      go_wp2_with fail
      refine Calls.mono (HB.out _) ?_
      rintro e w3 ⟨rfl, hx⟩
      replace Xp := hid (Xp.out.then hx)
      clear hx 
      go_wp2
      go_returns
      exact ⟨rfl, Xp.out⟩
    · rw [if_neg hm] at H2
      rw [if_neg (fun h => h hw), if_neg hm] at H1
      obtain ⟨g1, g2⟩ := Dct.mny_false (by simpa using hm)
      have HS := hid (fun B cb wx (hx : Ext w wx) (h : Rd wx B (txs l)) => sameTexts_any l l B A n n cb cap wx hn hn h (hr.keep hx) (by omega))
      rw [show sameTexts l l = true from decide_eq_true rfl] at HS
      have hlu := Cod.up_len (Cod.tx l) 5 2 2000 (fun j => Cod.tx_len l j g1 g2)
      have HR := hid (fun wx => readTexts_of (Cod.up (Cod.tx l) 5 2) l.length _ _ wx (by omega) (Cod.rtx_up l g1 g2))
      unfold TextsOut at HR
      rw [hn] at HR
      obtain ⟨k, rfl⟩ := Int.eq_ofNat_of_zero_le (show 0 ≤ way by omega)
      rw [Int.toNat_natCast] at H1
      have HR2 := hid (fun wx => readTexts_of (Cod.tg (Cod.tx l) k) l.length _ _ wx (by rw [Cod.tg_len]; have := Cod.tx_len l k g1 g2; omega) (Cod.rtx_tg l k g1 g2 (by omega) (by omega)))
      unfold TextsOut at HR2
      rw [hn] at HR2
      generalize (⟨(Cod.tg (Cod.tx l) k).toArray⟩ : ByteArray) = S1 at *
      generalize (⟨(Cod.up (Cod.tx l) 5 2).toArray⟩ : ByteArray) = S2 at *
      clear hn hr hnl hlu g1 g2 hm hw
      go_enter Tryz.func8, Tryz.ntmps8
      go_wp2_with fail
      refine Calls.mono (H1.out) ?_
      rintro e w1 ⟨rfl, hx⟩
      have Xp := hid hx
      clear hx 
      go_wp2_with fail
      refine Calls.mono (H2.out _ Xp.out) ?_
      rintro e w2 ⟨rfl, hx⟩
      replace Xp := hid (Xp.out.then hx)
      clear hx 
      go_wp2_with fail
      refine Calls.mono (HB.out _) ?_
      rintro e w3 ⟨rfl, hx⟩
      replace Xp := hid (Xp.out.then hx)
      clear hx 
      go_wp2_with fail
      refine Calls.mono (HR.out _) ?_
      rintro e w4 ⟨B, cb, rfl, h1, hx⟩
      replace Xp := hid (Xp.out.then hx)
      have RB := hid h1
      clear hx h1
      go_wp2_with fail
      refine Calls.mono (HS.out _ _ _ Xp.out RB.out) ?_
      rintro e w5 ⟨rfl, hx⟩
      replace Xp := hid (Xp.out.then hx)
      replace RB := hid (RB.out.keep hx)
      clear hx 
      go_wp2_with fail
      refine Calls.mono (HR2.out _) ?_
      rintro e w6 ⟨B2, cb2, rfl, h1, hx⟩
      replace Xp := hid (Xp.out.then hx)
      have RC := hid h1
      clear hx h1
      go_wp2_with fail
      refine Calls.mono (HS.out _ _ _ Xp.out RC.out) ?_
      rintro e w7 ⟨rfl, hx⟩
      replace Xp := hid (Xp.out.then hx)
      replace RC := hid (RC.out.keep hx)
      clear hx 
      go_wp2
      go_returns
      exact ⟨rfl, Xp.out⟩
  · by_cases hm : Dct.mny l = true
    · rw [if_pos hm] at H2
      rw [if_pos hw] at H1
      clear hn hr hnl hm hw
      go_enter Tryz.func8, Tryz.ntmps8
      go_wp2_with fail
      refine Calls.mono (H1.out) ?_
      rintro e w1 ⟨rfl, hx⟩
      have Xp := hid hx
      clear hx 
      go_wp2_with fail
      refine Calls.mono (H2.out _ Xp.out) ?_
      rintro e w2 ⟨rfl, hx⟩
      replace Xp := hid (Xp.out.then hx)
      clear hx 
      go_wp2_with fail
      refine Calls.mono (HB.out _) ?_
      rintro e w3 ⟨rfl, hx⟩
      replace Xp := hid (Xp.out.then hx)
      clear hx 
      go_wp2
      go_returns
      exact ⟨rfl, Xp.out⟩
    · rw [if_neg hm] at H2
      rw [if_pos hw] at H1
      obtain ⟨g1, g2⟩ := Dct.mny_false (by simpa using hm)
      have HS := hid (fun B cb wx (hx : Ext w wx) (h : Rd wx B (txs l)) => sameTexts_any l l B A n n cb cap wx hn hn h (hr.keep hx) (by omega))
      rw [show sameTexts l l = true from decide_eq_true rfl] at HS
      have hlu := Cod.up_len (Cod.tx l) 5 2 2000 (fun j => Cod.tx_len l j g1 g2)
      have HR := hid (fun wx => readTexts_of (Cod.up (Cod.tx l) 5 2) l.length _ _ wx (by omega) (Cod.rtx_up l g1 g2))
      unfold TextsOut at HR
      rw [hn] at HR
      generalize (⟨(Cod.up (Cod.tx l) 5 2).toArray⟩ : ByteArray) = S2 at *
      clear hn hr hnl hlu g1 g2 hm hw
      go_enter Tryz.func8, Tryz.ntmps8
      go_wp2_with fail
      refine Calls.mono (H1.out) ?_
      rintro e w1 ⟨rfl, hx⟩
      have Xp := hid hx
      clear hx 
      go_wp2_with fail
      refine Calls.mono (H2.out _ Xp.out) ?_
      rintro e w2 ⟨rfl, hx⟩
      replace Xp := hid (Xp.out.then hx)
      clear hx 
      go_wp2_with fail
      refine Calls.mono (HB.out _) ?_
      rintro e w3 ⟨rfl, hx⟩
      replace Xp := hid (Xp.out.then hx)
      clear hx 
      go_wp2_with fail
      refine Calls.mono (HR.out _) ?_
      rintro e w4 ⟨B, cb, rfl, h1, hx⟩
      replace Xp := hid (Xp.out.then hx)
      have RB := hid h1
      clear hx h1
      go_wp2_with fail
      refine Calls.mono (HS.out _ _ _ Xp.out RB.out) ?_
      rintro e w5 ⟨rfl, hx⟩
      replace Xp := hid (Xp.out.then hx)
      replace RB := hid (RB.out.keep hx)
      clear hx 
      go_wp2
      go_returns
      exact ⟨rfl, Xp.out⟩
end Go.Proofs.YtdmmodeplfmpnaaGreat
end
