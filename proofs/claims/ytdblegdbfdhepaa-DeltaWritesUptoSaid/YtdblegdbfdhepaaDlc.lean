/- Delta: Read: plain words, the walks. -/
import Derived.Test.YtdblegdbfdhepaaDlb
namespace Hy.Hyb
open Go
theorem stp_lt {w left : Nat} {s : List UInt8} : ∀ x ∈ (stp w left s).2.1, x < 2 ^ w := by
  unfold stp
  generalize Vary.rd s = r
  obtain ⟨n, k, e⟩ := r
  simp only
  repeat' split
  all_goals first
    | (intro x hx; cases hx)
    | (intro x hx; rw [List.eq_of_mem_replicate hx]; exact Nat.mod_lt _ (Nat.two_pow_pos w))
    | (intro x hx; exact Bits.unp_lt _ _ _ x (List.mem_of_mem_take hx))
theorem rdF_lt (w many : Nat) : ∀ (f : Nat) (s : List UInt8) (o : List Nat), (∀ x ∈ o, x < 2 ^ w) → ∀ x ∈ (rdF w many f s o).1, x < 2 ^ w
  | 0, s, o, h => by
    rw [rdF]
    split
    · split
      · exact h
      · simp
    · simp
  | f + 1, s, o, h => by
    rw [rdF]
    split
    · split
      · exact h
      · simp
    · split
      · simp
      · exact rdF_lt w many f _ _ (fun x hx => by
          rcases List.mem_append.1 hx with hx | hx
          · exact h x hx
          · exact stp_lt x hx)
theorem rdl_lt (s : List UInt8) (many w : Int) : ∀ x ∈ (rdl s many w).1, x < 18446744073709551616 := by
  unfold rdl
  split
  · simp
  · split
    · simp
    · intro x hx
      have h1 := rdF_lt w.toNat many.toNat many.toNat s [] (by simp) x hx
      have h2 : 2 ^ w.toNat ≤ 2 ^ 64 := Nat.pow_le_pow_right (by decide) (by omega)
      omega
theorem rdl_len2 (s : List UInt8) (many w : Int) : (rdl s many w).1.length ≤ many.toNat := by
  unfold rdl
  split
  · simp
  · split
    · simp
    · exact rdF_len w.toNat many.toNat many.toNat s [] (by simp)
end Hy.Hyb
namespace Hy
open Go in
theorem toList_data (s : ByteArray) : s.toList = s.data.toList := by
  have h := ByteArray.toList_mk s.data.toList
  have e : (⟨s.data.toList.toArray⟩ : ByteArray) = s := by cases s; simp
  rw [e] at h; exact h
end Hy
namespace Hy.Dlt
open Go
/-- the rest of a list behind its first number -/
@[irreducible] def rst (s : List UInt8) (many : Int) : List Nat × Nat := match s with
  | [] => ([], 5)
  | c :: t => if (Hyb.rdl t many c.toNat).2 ≠ 0 then ([], (Hyb.rdl t many c.toNat).2) else if Bits.width (Hyb.rdl t many c.toNat).1 ≠ c.toNat then ([], 1) else ((Hyb.rdl t many c.toNat).1.map zag, 0)
theorem rst_nil (many : Int) : rst [] many = ([], 5) := by unfold rst; rfl
theorem rst_bad {c : UInt8} {t : List UInt8} {many : Int} (h : (Hyb.rdl t many c.toNat).2 ≠ 0) : rst (c :: t) many = ([], (Hyb.rdl t many c.toNat).2) := by unfold rst; simp only; rw [if_pos h]
theorem rst_form {c : UInt8} {t : List UInt8} {many : Int} (h : (Hyb.rdl t many c.toNat).2 = 0) (h2 : Bits.width (Hyb.rdl t many c.toNat).1 ≠ c.toNat) : rst (c :: t) many = ([], 1) := by unfold rst; simp only; rw [if_neg (by omega), if_pos h2]
theorem rst_ok {c : UInt8} {t : List UInt8} {many : Int} (h : (Hyb.rdl t many c.toNat).2 = 0) (h2 : Bits.width (Hyb.rdl t many c.toNat).1 = c.toNat) : rst (c :: t) many = ((Hyb.rdl t many c.toNat).1.map zag, 0) := by unfold rst; simp only; rw [if_neg (by omega), if_neg (by omega)]
theorem rst_len (s : List UInt8) (many : Int) : (rst s many).1.length ≤ many.toNat := by
  cases s with
  | nil => rw [rst_nil]; simp
  | cons c t =>
    by_cases h : (Hyb.rdl t many c.toNat).2 = 0
    · by_cases h2 : Bits.width (Hyb.rdl t many c.toNat).1 = c.toNat
      · rw [rst_ok h h2, List.length_map]; exact Hyb.rdl_len2 t many c.toNat
      · rw [rst_form h h2]; simp
    · rw [rst_bad h]; simp
theorem rst_lt (s : List UInt8) (many : Int) : ∀ x ∈ (rst s many).1, x < 18446744073709551616 := by
  cases s with
  | nil => rw [rst_nil]; simp
  | cons c t =>
    by_cases h : (Hyb.rdl t many c.toNat).2 = 0
    · by_cases h2 : Bits.width (Hyb.rdl t many c.toNat).1 = c.toNat
      · rw [rst_ok h h2]
        intro x hx
        obtain ⟨y, hy, rfl⟩ := List.mem_map.1 hx
        exact zag_lt y (Hyb.rdl_lt t many c.toNat y hy)
      · rw [rst_form h h2]; simp
    · rw [rst_bad h]; simp
/-- Read a list -/
@[irreducible] def rds (s : List UInt8) (many : Int) : List Nat × Nat :=
  if many < 0 then ([], 3) else if 64 < many then ([], 2) else if many = 0 then (if s = [] then ([], 0) else ([], 1))
  else if (Vary.rd s).2.2 ≠ 0 then ([], (Vary.rd s).2.2)
  else if (rst (s.drop (Vary.rd s).2.1) (many - 1)).2 ≠ 0 then ([], (rst (s.drop (Vary.rd s).2.1) (many - 1)).2)
  else (sums 0 ((Vary.rd s).1 :: (rst (s.drop (Vary.rd s).2.1) (many - 1)).1), 0)
section
variable {s : List UInt8} {many : Int} {n k e : Nat}
theorem rds_neg (h : many < 0) : rds s many = ([], 3) := by unfold rds; rw [if_pos h]
theorem rds_many (h : 64 < many) : rds s many = ([], 2) := by unfold rds; rw [if_neg (by omega), if_pos h]
theorem rds_zero : rds [] 0 = ([], 0) := by unfold rds; simp
theorem rds_form (h : s ≠ []) : rds s 0 = ([], 1) := by unfold rds; simp [h]
theorem rds_vary (h1 : 0 < many) (h2 : many ≤ 64) (h : Vary.rd s = (n, k, e)) (he : e ≠ 0) : rds s many = ([], e) := by
  unfold rds; rw [h, if_neg (by omega), if_neg (by omega), if_neg (by omega), if_pos he]
theorem rds_rest (h1 : 0 < many) (h2 : many ≤ 64) (h : Vary.rd s = (n, k, 0)) (he : (rst (s.drop k) (many - 1)).2 ≠ 0) : rds s many = ([], (rst (s.drop k) (many - 1)).2) := by
  unfold rds; rw [h, if_neg (by omega), if_neg (by omega), if_neg (by omega), if_neg (by simp), if_pos he]
theorem rds_ok (h1 : 0 < many) (h2 : many ≤ 64) (h : Vary.rd s = (n, k, 0)) (he : (rst (s.drop k) (many - 1)).2 = 0) : rds s many = (sums 0 (n :: (rst (s.drop k) (many - 1)).1), 0) := by
  unfold rds; rw [h, if_neg (by omega), if_neg (by omega), if_neg (by omega), if_neg (by simp), if_neg (by simp only; omega)]
theorem rds_len (s : List UInt8) (many : Int) : (rds s many).1.length ≤ 64 := by
  unfold rds
  repeat' split
  all_goals first
    | (simp; done)
    | (rw [sums_len, List.length_cons]
       have := rst_len (s.drop (Vary.rd s).2.1) (many - 1)
       omega)
end
end Hy.Dlt
namespace Go.Proofs.Ytdblegdbfdhepaa
open Go.RowKit Hy
set_option maxHeartbeats 1000000 in
theorem rest_any (s : ByteArray) (many : Int) (w : World) (hs : s.size ≤ 281474976710656) :
    Calls Try.prog 80 #[.string s, .int .i64 many] w (NumsCap (Dlt.rst s.data.toList many).1 (Dlt.rst s.data.toList many).2 w) := by
  cases hd : s.data.toList with
  | nil =>
    rw [Dlt.rst_nil]
    obtain rfl : s = ⟨#[]⟩ := by
      apply ByteArray.ext; apply Array.ext'; rw [hd]
    clear hd hs
    go_enter Try.func80, Try.ntmps80
    go_wp2
    go_returns
    exact ⟨none, 0, rfl, fun h => by simp [u64s] at h, ext_refl _, Nat.le_refl _⟩
  | cons c t =>
    have hsl : s.size = t.length + 1 := by have := congrArg List.length hd; rw [Array.length_toList] at this; simpa using this
    have hT := fun wx : World => run_from (P := Try.prog) (w := wx) Try.underlying9 s .i64 1 (by omega)
    have hX := fun wx : World => run_ix0 (P := Try.prog) (w := wx) Try.underlying9 s .i64 c t hd
    have h11 : ((1 : Nat) : Int) = 1 := rfl
    simp only [hd, List.drop_succ_cons, List.drop_zero, h11] at hT
    have e1 : s.toList.isEmpty = false := by
      have : s.toList = s.data.toList := toList_data s
      rw [this, hd]; rfl
    have HRE := hid (fun wx => hyRead_any ⟨t.toArray⟩ many c.toNat wx)
    have HLT := hid (Hyb.rdl_lt t many c.toNat)
    have hlen := Hyb.rdl_len t many c.toNat
    obtain ⟨TT, hTT⟩ : ∃ S : ByteArray, S = ⟨t.toArray⟩ := ⟨_, rfl⟩
    have htl : (⟨t.toArray⟩ : ByteArray).data.toList = t := rfl
    rw [htl, ← hTT] at HRE
    rw [← hTT] at hT
    have hc8 : c.toNat < 256 := c.toNat_lt
    have HB := hid (@Dlt.rst_bad c t many)
    have HF := hid (@Dlt.rst_form c t many)
    have HO := hid (@Dlt.rst_ok c t many)
    obtain ⟨R, hR⟩ : ∃ R, R = Dlt.rst (c :: t) many := ⟨_, rfl⟩
    rw [← hR] at HB HF HO ⊢
    unfold NumsOut at HRE
    obtain ⟨L, er, hl⟩ : ∃ L er, Hyb.rdl t many c.toNat = (L, er) := ⟨_, _, rfl⟩
    rw [hl] at HRE HLT hlen HB HF HO
    simp only at HRE HLT hlen HB HF HO
    clear hTT htl hR hl hd hs hsl
    generalize c.toNat = z at *
    have hzI : (z : Int) ≤ 255 := by omega
    obtain ⟨m, hm⟩ : ∃ m, m = L.length := ⟨_, rfl⟩
    rw [← hm] at HRE hlen
    have HM := hid hm
    have hmI : (m : Int) ≤ 64 := by omega
    clear hm hc8
    by_cases he : er = 0
    · subst he
      have HWA := hid (fun A c wx h => width_any L A m c wx HM.out.symm h HLT.out (by omega))
      have HZA := hid (fun A c wx h => all_zag L A m c wx HM.out.symm h HLT.out (by omega))
      obtain ⟨wi, hwi⟩ : ∃ wi, wi = Bits.width L := ⟨_, rfl⟩
      rw [← hwi] at HWA HF HO
      by_cases hw : wi = z
      · have hr := HO.out rfl hw
        have HMAP := hid (show (L.map Dlt.zag).length = m by rw [List.length_map, HM.out])
        obtain ⟨ZZ, hZZ⟩ : ∃ ZZ, ZZ = L.map Dlt.zag := ⟨_, rfl⟩
        rw [← hZZ] at hr HMAP HZA
        have HRR := hid hr
        subst hw
        clear HB HF HO hr hZZ hlen hwi
        go_enter Try.func80, Try.ntmps80
        go_wp2_with fail
        refine Calls.mono (HRE.out _) ?_
        rintro e w1 ⟨A, cp, rfl, hrd, hx⟩
        have HRD := hid hrd
        have HX := hid hx
        clear hrd hx
        go_wp2_with fail
        refine Calls.mono (HWA.out _ _ _ HRD.out) ?_
        rintro e _ ⟨rfl, rfl⟩
        go_wp2_with fail
        refine Calls.mono (HZA.out _ _ _ HRD.out) ?_
        rintro e w2 ⟨B, cb, rfl, hrd, hx, hc⟩
        have HRD2 := hid hrd
        have HX2 := hid (HX.out.then hx)
        have HC := hid hc
        clear hrd hx hc
        go_wp2
        go_returns
        rw [HRR.out]
        exact ⟨B, cb, by rw [HMAP.out]; rfl, HRD2.out, HX2.out, by rw [HMAP.out]; exact HC.out⟩
      · have hr := HF.out rfl hw
        have HRR := hid hr
        have h3 : ((wi : Int) != (z : Int)) = true := by rw [bne_iff_ne]; omega
        have h4 : ((wi : Int) == (z : Int)) = false := by rw [beq_eq_false_iff_ne]; omega
        clear HB HF HO hr hlen hwi hw
        go_enter Try.func80, Try.ntmps80
        go_wp2_with fail
        refine Calls.mono (HRE.out _) ?_
        rintro e w1 ⟨A, cp, rfl, hrd, hx⟩
        have HRD := hid hrd
        have HX := hid hx
        clear hrd hx
        go_wp2_with fail
        refine Calls.mono (HWA.out _ _ _ HRD.out) ?_
        rintro e _ ⟨rfl, rfl⟩
        go_wp2
        go_returns
        rw [HRR.out]
        exact ⟨none, 0, rfl, fun h => by simp [u64s] at h, HX.out, Nat.le_refl _⟩
    · have hr := HB.out he
      have HRR := hid hr
      have h3 : ((er : Int) != 0) = true := by rw [bne_iff_ne]; omega
      have h4 : ((er : Int) == 0) = false := by rw [beq_eq_false_iff_ne]; omega
      clear HB HF HO hr hlen he
      go_enter Try.func80, Try.ntmps80
      go_wp2_with fail
      refine Calls.mono (HRE.out _) ?_
      rintro e w1 ⟨A, cp, rfl, _, hx⟩
      have HX := hid hx
      clear hx
      go_wp2
      go_returns
      rw [HRR.out]
      exact ⟨none, 0, rfl, fun h => by simp [u64s] at h, HX.out, Nat.le_refl _⟩
set_option maxHeartbeats 1000000 in
theorem dRead_any (s : ByteArray) (many : Int) (w : World) (hs : s.size ≤ 281474976710656) :
    Calls Try.prog 49 #[.string s, .int .i64 many] w (NumsCap (Dlt.rds s.data.toList many).1 (Dlt.rds s.data.toList many).2 w) := by
  have hss : s.data.toList.length = s.size := Array.length_toList
  by_cases h1 : many < 0
  · rw [Dlt.rds_neg h1]
    go_enter Try.func49, Try.ntmps49
    go_wp2
    go_returns
    exact ⟨none, 0, rfl, fun h => by simp [u64s] at h, ext_refl _, Nat.le_refl _⟩
  by_cases h2 : 64 < many
  · rw [Dlt.rds_many h2]
    go_enter Try.func49, Try.ntmps49
    go_wp2
    go_returns
    exact ⟨none, 0, rfl, fun h => by simp [u64s] at h, ext_refl _, Nat.le_refl _⟩
  by_cases h3 : many = 0
  · subst h3
    by_cases h4 : s.data.toList = []
    · obtain rfl : s = ⟨#[]⟩ := by apply ByteArray.ext; apply Array.ext'; rw [h4]
      rw [h4, Dlt.rds_zero]
      clear h4 hss hs
      go_enter Try.func49, Try.ntmps49
      go_wp2
      go_returns
      exact ⟨none, 0, rfl, fun h => by simp [u64s] at h, ext_refl _, Nat.le_refl _⟩
    · rw [Dlt.rds_form h4]
      have e1 : s.toList.isEmpty = false := by
        have : s.toList = s.data.toList := toList_data s
        rw [this]; simpa using h4
      clear h4
      go_enter Try.func49, Try.ntmps49
      go_wp2
      go_returns
      exact ⟨none, 0, rfl, fun h => by simp [u64s] at h, ext_refl _, Nat.le_refl _⟩
  obtain ⟨mm, rfl⟩ := Int.eq_ofNat_of_zero_le (show 0 ≤ many by omega)
  obtain ⟨a, k, e, hrd⟩ : ∃ a k e, Vary.rd s.data.toList = (a, k, e) := ⟨_, _, _, rfl⟩
  have HR := hid (fun wx => read_any s wx)
  rw [hrd] at HR
  simp only at HR
  have hmI : (mm : Int) ≤ 64 := by omega
  have hm1 : (1 : Int) ≤ (mm : Int) := by omega
  have hmn : ((mm : Int) == 0) = false := by rw [beq_eq_false_iff_ne]; omega
  by_cases he : e = 0
  · subst he
    obtain ⟨r1, r2, r3, r4, _⟩ := Vary.rd_ok (s := s.data.toList) (by rw [hrd])
    rw [hrd] at r1 r2 r3 r4
    simp only at r1 r2 r3 r4
    rw [hss] at r2
    have hT := fun wx : World => run_from (P := Try.prog) (w := wx) Try.underlying9 s .i64 k r2
    obtain ⟨XD, hXD⟩ : ∃ XD : ByteArray, XD = ⟨(s.data.toList.drop k).toArray⟩ := ⟨_, rfl⟩
    rw [← hXD] at hT
    have hds : XD.size ≤ 281474976710656 := by rw [hXD, str_size, List.length_drop]; omega
    have HRE := hid (fun wx => rest_any XD ((mm : Int) - 1) wx hds)
    have hxl : XD.data.toList = s.data.toList.drop k := by rw [hXD]
    rw [hxl] at HRE
    have hlen := Dlt.rst_len (s.data.toList.drop k) ((mm : Int) - 1)
    have hlt := Dlt.rst_lt (s.data.toList.drop k) ((mm : Int) - 1)
    have HB := hid (fun h => Dlt.rds_rest (s := s.data.toList) (many := mm) (by omega) (by omega) hrd h)
    have HO := hid (fun h => Dlt.rds_ok (s := s.data.toList) (many := mm) (by omega) (by omega) hrd h)
    obtain ⟨L, er, hl⟩ : ∃ L er, Dlt.rst (s.data.toList.drop k) ((mm : Int) - 1) = (L, er) := ⟨_, _, rfl⟩
    rw [hl] at HRE hlen hlt HB HO
    unfold NumsCap at HRE
    simp only at HRE hlen hlt HB HO
    obtain ⟨R, hR⟩ : ∃ R, R = Dlt.rds s.data.toList (mm : Int) := ⟨_, rfl⟩
    rw [← hR] at HB HO ⊢
    obtain ⟨m, hm⟩ : ∃ m, m = L.length := ⟨_, rfl⟩
    rw [← hm] at HRE hlen
    have hmm : (m : Int) ≤ 63 := by omega
    have haI : (a : Int) ≤ 18446744073709551615 := by omega
    by_cases he2 : er = 0
    · subst he2
      have HRR := hid (HO.out rfl)
      have hal : ∀ x ∈ a :: L, x < 18446744073709551616 := fun x hx => by
        rcases List.mem_cons.1 hx with rfl | hx
        · exact r4
        · exact hlt x hx
      have HSU := hid (fun B c wx h => sums_any (a :: L) B (1 + m) c wx (by rw [List.length_cons, ← hm]; omega) h hal (by omega))
      have hsm : Dlt.sm (a :: L) = (Dlt.sums 0 (a :: L), 0) := by unfold Dlt.sm; rw [if_neg (by rw [List.length_cons, ← hm]; omega)]
      rw [hsm] at HSU
      have HM := hid hm
      have HM63 := hid (show m ≤ 63 by omega)
      clear HB HO hal hlen hlt hl hR hm hsm hxl hds hXD r1 r2 r3 r4 hrd h1 h2 h3 hs hss
      go_enter Try.func49, Try.ntmps49
      go_wp2_with fail
      refine Calls.mono (HR.out _) ?_
      rintro e w1 ⟨rfl, hx⟩
      have HX := hid hx
      clear hx
      go_wp2_with fail
      refine Calls.mono (HRE.out _) ?_
      rintro e w2 ⟨B, c, rfl, hrd, hx, _⟩
      have HRD := hid hrd
      have HX2 := hid (HX.out.then hx)
      clear hrd hx HX
      go_wp2_with (at_builtin; refine wpList_app rfl (.tmp 48) (.tmp 49) rowU64 rfl _ 1 (u64s [a]) rfl (own_new (base := w2.heap.size) rfl rfl (Nat.le_refl _) (by decide)) _ m (u64s L) rfl (Src.rd Try.underlying22 B m c _ (by rw [u64s_len, HM.out, Nat.mul_one]) (HRD.out.keep ((ext_refl _).new _)) (u64s_one _) (fun h => by
        rcases Nat.eq_zero_or_pos m with h0 | h0
        · exact h0
        · obtain ⟨_, _, e0, _⟩ := HRD.out (by rw [u64s_len, ← HM.out]; exact h0)
          rw [h] at e0; cases e0)) (by have := HM63.out; unfold maxLen; omega) (by have := HM63.out; omega) (by simp) ?_; intro v3 w3 hown3 hg3 ha3 hb3; obtain ⟨B3, c3, rfl, hrd3, _⟩ := Rd.owned hown3; have HR3 := hid hrd3; have E3 := hid (((ext_refl w2).new _).trans hb3); clear hown3 hg3 ha3 hb3 hrd3)
      refine Calls.mono (HSU.out _ _ _ (by rw [show a :: L = [a] ++ L from rfl, u64s_app]; exact HR3.out)) ?_
      rintro e w4 ⟨C, c4, rfl, hrd, hx, hc⟩
      have HRD4 := hid hrd
      have HX4 := hid ((HX2.out.then E3.out).then hx)
      have HC4 := hid hc
      clear hrd hx hc
      go_wp2
      go_returns
      rw [HRR.out]
      exact ⟨C, c4, rfl, HRD4.out, HX4.out, HC4.out⟩
    · have HRR := hid (HB.out he2)
      have h5 : ((er : Int) != 0) = true := by rw [bne_iff_ne]; omega
      have h6 : ((er : Int) == 0) = false := by rw [beq_eq_false_iff_ne]; omega
      clear HB HO hlen hlt hl hR hm hxl hds hXD r1 r2 r3 r4 hrd h1 h2 h3 hs hss he2
      go_enter Try.func49, Try.ntmps49
      go_wp2_with fail
      refine Calls.mono (HR.out _) ?_
      rintro e w1 ⟨rfl, hx⟩
      have HX := hid hx
      clear hx
      go_wp2_with fail
      refine Calls.mono (HRE.out _) ?_
      rintro e w2 ⟨B, c, rfl, _, hx, _⟩
      have HX2 := hid (HX.out.then hx)
      clear hx HX
      go_wp2
      go_returns
      rw [HRR.out]
      exact ⟨none, 0, rfl, fun h => by simp [u64s] at h, HX2.out, Nat.le_refl _⟩
  · rw [Dlt.rds_vary (by omega) (by omega) hrd he]
    have h5 : ((e : Int) != 0) = true := by rw [bne_iff_ne]; omega
    have h6 : ((e : Int) == 0) = false := by rw [beq_eq_false_iff_ne]; omega
    clear hrd h1 h2 h3 hs hss he
    go_enter Try.func49, Try.ntmps49
    go_wp2_with fail
    refine Calls.mono (HR.out _) ?_
    rintro e w1 ⟨rfl, hx⟩
    have HX := hid hx
    clear hx
    go_wp2
    go_returns
    exact ⟨none, 0, rfl, fun h => by simp [u64s] at h, HX.out, Nat.le_refl _⟩
end Go.Proofs.Ytdblegdbfdhepaa
