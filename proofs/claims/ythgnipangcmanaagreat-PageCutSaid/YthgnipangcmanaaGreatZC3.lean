/- Texts of this claim, put together: walks and plain laws. -/
import Derived.Test.YthgnipangcmanaaGreatZC2
import Derived.Test.YthgnipangcmanaaGreatZB1
import Derived.Test.YthgnipangcmanaaGreatZV1
import Derived.Test.YthgnipangcmanaaGreatZH1
import Derived.Test.YthgnipangcmanaaGreatZH2
import Derived.Test.YthgnipangcmanaaGreatZE1
import Derived.Test.YthgnipangcmanaaGreatZC1
import Derived.Test.YthgnipangcmanaaGreatZF1
import Derived.Test.YthgnipangcmanaaGreatZD1
section
namespace Hy
open Go Go.RowKit
theorem Blk.grown {w w' : World} {g : Nat} {t : TypeId} {cs : Array Value} {row : Option Nat} (h : Blk w g t cs) (hg : w.grownBy w' row) (hne : row ≠ some g) : Blk w' g t cs := (hg.block g h.lt (Ne.symm hne)).trans h
end Hy
namespace Go.Proofs.YthgnipangcmanaaGreat
open Go.RowKit Hy
set_option maxHeartbeats 2000000 in
theorem split_yes (kind : Int) (l : List Cel) (A : Option Addr) (n cap : Nat) (w : World) (hn : l.length = n) (hr : Rd w A (cls l)) (hj : Cel.cchk kind l = 0) :
    Calls Tryz.prog 18 #[.int .i64 kind, .slice A n cap] w fun e w' => ∃ C c D d, e = .returned (.tuple #[.slice C n c, .slice D (Cel.dense l).length d, .int .i64 0]) ∧ Rd w' C (bls (thereL l)) ∧ Rd w' D (cls (Cel.dense l)) ∧ n ≤ c ∧ (Cel.dense l).length ≤ d ∧ Ext w w' := by
  have hn64 : n ≤ 64 := by rw [← hn]; exact (Cel.cchk_iff.1 hj).2.1
  have HC := hid (ncheck_any kind l A n cap w hn hr (by omega))
  rw [hj] at HC
  have HN := hid hn
  have HA := hid hr
  have HL := hid hn64
  have hnI : (n : Int) ≤ 64 := by omega
  clear hn hr hj hn64
  go_enter Tryz.func18, Tryz.ntmps18
  go_wp2_with fail
  refine Calls.mono HC.out ?_
  rintro e w0 ⟨rfl, hx⟩
  have X0 := hid hx
  clear hx
  go_wp2
  go_loopw [8, 9, 20] (fun x y c wr => ∃ k : Nat, k ≤ n ∧ c = .int .i64 k ∧ wr.ownsRow w0.heap.size 4 1 x k (bls (thereL (l.take k))) ∧ wr.ownsRow w0.heap.size 48 3 y (Cel.dense (l.take k)).length (cls (Cel.dense (l.take k))) ∧ Ext w0 wr) (fun _ _ c _ => n - (intOf c).toNat)
  case atStart => exact ⟨0, Nat.zero_le _, rfl, World.ownsRow_nil _ _ _ _, World.ownsRow_nil _ _ _ _, ext_refl _⟩
  case round =>
    obtain ⟨k, hk, rfl, hown, hown2, X⟩ := hrel
    by_cases hlt : k < n
    · have hka : k < l.length := by rw [HN.out]; exact hlt
      obtain ⟨b1, o1, e1, l1, c1⟩ := HA.out.cels k hka
      subst e1
      have XX := X0.out.then X
      have d0 := (XX.cell (p := ⟨b1, o1 + k * 3, none⟩) l1).trans (c1 k hka).1
      have d1 := (XX.cell (p := ⟨b1, o1 + k * 3 + 1, none⟩) l1).trans (c1 k hka).2.1
      have d2 := (XX.cell (p := ⟨b1, o1 + k * 3 + 2, none⟩) l1).trans (c1 k hka).2.2
      have HE := hid (thereL_take l k hka)
      have HY := hid (Cel.dense_yes l k hka)
      have HNO := hid (Cel.dense_no l k hka)
      have hDL := Cel.dense_len (l.take k)
      have HDL := hid (show (Cel.dense (l.take k)).length ≤ n by rw [List.length_take] at hDL; omega)
      have HO := hid hown
      have HO2 := hid hown2
      have HX := hid X
      generalize l[k] = c at *
      generalize thereL (l.take k) = M at *
      generalize Cel.dense (l.take k) = D at *
      obtain ⟨kk, nn, ss⟩ := c
      have HT := hid (there_any (kk, nn, ss))
      simp only at d0 d1 d2 HE HY HNO
      have HG1 := hid (own_not hown (Nat.le_refl _))
      have BZ := hid (Blk.new wr 48 #[.int .i64 kk, .int .u64 (nn : Nat), .string ss])
      replace HO := hid (own_ext HO.out ((ext_refl wr).new (.cells #[.int .i64 kk, .int .u64 (nn : Nat), .string ss] 48)))
      replace HO2 := hid (own_ext HO2.out ((ext_refl wr).new (.cells #[.int .i64 kk, .int .u64 (nn : Nat), .string ss] 48)))
      replace HX := hid (HX.out.new (.cells #[.int .i64 kk, .int .u64 (nn : Nat), .string ss] 48))
      obtain ⟨q, hq⟩ : ∃ q, q = decide (kk ≠ 0) := ⟨_, rfl⟩
      simp only [← hq] at HE HT
      clear c1 hka hown hown2 hDL X XX l1
      go_wp2_with fail
      refine Calls.mono (HT.out _) ?_
      rintro e w1 ⟨rfl, hx⟩
      replace BZ := hid (BZ.out.keep hx)
      replace HO := hid (own_ext HO.out hx)
      replace HO2 := hid (own_ext HO2.out hx)
      replace HX := hid (HX.out.then hx)
      clear hx d0 d1 d2
      obtain ⟨z0, z1, z2⟩ := BZ.out.c3
      cases q with
      | false =>
        have hk0 : kk = 0 := by simpa using hq.symm
        have HE2 := hid (HNO.out hk0)
        clear hq hk0
        go_wp2_with (at_builtin; go_loud (refine wpList_app rfl (.tmp 24) (.tmp 27) rowBl rfl _ k (bls M) rfl (own_ext HO.out (Ext.new (ext_refl _) _)) _ 1 (bls [false]) rfl (Src.rd Tryz.underlying39 _ 1 1 _ rfl (rd_lit rfl rfl) (bls_one _) (fun h => by cases h)) (by have := HL.out; simp only [maxLen]; omega) (by have := HL.out; omega) (by have := HX.out.size; simp; omega) ?_; intro v' w5 hown5 hgrow hat hbel; have HO5 := hid hown5; have HP5 := hid ((own_ext HO2.out (Ext.new (ext_refl _) _)).kept hgrow (own_ne HO2.out HO.out (by decide))); replace HX : Hid (Ext w0 _) := hid ((Ext.new HX.out _).trans hbel); have BZ5 := hid ((BZ.out.alloc _).grown hgrow HG1.out); clear hown5 hgrow hat hbel z0 z1 z2; obtain ⟨z0, z1, z2⟩ := BZ5.out.c3))
        refine Calls.mono (HT.out _) ?_
        rintro e w6 ⟨rfl, hx⟩
        replace HX := hid (HX.out.then hx)
        replace HO5 := hid (own_ext HO5.out hx)
        replace HP5 := hid (own_ext HP5.out hx)
        clear hx z0 z1 z2
        go_wp2
        go_roundw
        case rel => exact ⟨k + 1, by omega, by go_num, by rw [HE.out, bls_app]; exact HO5.out, by rw [HE2.out]; exact HP5.out, HX.out⟩
        case measure => simp [intOf]; omega
      | true =>
        have hk0 : kk ≠ 0 := by simpa using hq.symm
        have HE2 := hid (HY.out hk0)
        clear hq hk0
        go_wp2_with (at_builtin; go_loud (refine wpList_app rfl (.tmp 24) (.tmp 27) rowBl rfl _ k (bls M) rfl (own_ext HO.out (Ext.new (ext_refl _) _)) _ 1 (bls [true]) rfl (Src.rd Tryz.underlying39 _ 1 1 _ rfl (rd_lit rfl rfl) (bls_one _) (fun h => by cases h)) (by have := HL.out; simp only [maxLen]; omega) (by have := HL.out; omega) (by have := HX.out.size; simp; omega) ?_; intro v' w5 hown5 hgrow hat hbel; have HO5 := hid hown5; have HP5 := hid ((own_ext HO2.out (Ext.new (ext_refl _) _)).kept hgrow (own_ne HO2.out HO.out (by decide))); replace HX : Hid (Ext w0 _) := hid ((Ext.new HX.out _).trans hbel); have BZ5 := hid ((BZ.out.alloc _).grown hgrow HG1.out); clear hown5 hgrow hat hbel z0 z1 z2; obtain ⟨z0, z1, z2⟩ := BZ5.out.c3))
        refine Calls.mono (HT.out _) ?_
        rintro e w6 ⟨rfl, hx⟩
        replace HX := hid (HX.out.then hx)
        replace HO5 := hid (own_ext HO5.out hx)
        replace HP5 := hid (own_ext HP5.out hx)
        replace BZ5 := hid (BZ5.out.keep hx)
        clear hx z0 z1 z2
        obtain ⟨z0, z1, z2⟩ := BZ5.out.c3
        go_wp2_with (at_builtin; go_loud (refine wpList_app rfl (.tmp 31) (.tmp 33) rowCl rfl _ D.length (cls D) rfl (own_ext HP5.out (Ext.new (ext_refl _) _)) _ 1 (cls [(kk, nn, ss)]) rfl (Src.rd Tryz.underlying22 _ 1 1 _ rfl (rd_lit rfl rfl) (cls_one _) (fun h => by cases h)) (by have := HL.out; have := HDL.out; simp only [maxLen]; omega) (by have := HL.out; have := HDL.out; omega) (by have := HX.out.size; simp; omega) ?_; intro v7 w7 hown7 hgrow hat hbel; have HP7 := hid hown7; have HO7 := hid ((own_ext HO5.out (Ext.new (ext_refl _) _)).kept hgrow (own_ne HO5.out HP5.out (by decide))); replace HX : Hid (Ext w0 _) := hid ((Ext.new HX.out _).trans hbel); clear hown7 hgrow hat hbel z0 z1 z2))
        go_roundw
        case rel => exact ⟨k + 1, by omega, by go_num, by rw [HE.out, bls_app]; exact HO7.out, by rw [HE2.out, List.length_append, cls_app]; exact HP7.out, HX.out⟩
        case measure => simp [intOf]; omega
    · obtain rfl : k = n := by omega
      obtain ⟨B, c, rfl, hrd, hB, hc, hcm⟩ := Rd.owned hown
      obtain ⟨B2, c2, rfl, hrd2, hB2, hc2, hcm2⟩ := Rd.owned hown2
      have HRD := hid hrd
      have HRD2 := hid hrd2
      have HC1 := hid hc
      have HC2 := hid hc2
      have HX := hid (X0.out.then X)
      clear hown hrd hB hc hcm hown2 hrd2 hB2 hc2 hcm2 X
      go_wp2
      go_returns
      have e : l.take k = l := List.take_of_length_le (by rw [HN.out]; exact Nat.le_refl _)
      rw [e] at HRD HRD2 HC2
      exact ⟨B, c, B2, c2, by rw [e]; rfl, HRD.out, HRD2.out, HC1.out, HC2.out, HX.out⟩
theorem split_no (kind : Int) (A : Option Addr) (n cap c : Nat) (w : World) (e2 : ((c : Int) != 0) = true)
    (HC : Hid (Calls Tryz.prog 41 #[.int .i64 kind, .slice A n cap] w fun e w' => e = .returned (.int .i64 (c : Nat)) ∧ Ext w w')) :
    Calls Tryz.prog 18 #[.int .i64 kind, .slice A n cap] w fun e w' => e = .returned (.tuple #[.slice none 0 0, .slice none 0 0, .int .i64 (c : Nat)]) ∧ Ext w w' := by
  go_enter Tryz.func18, Tryz.ntmps18
  go_wp2_with fail
  refine Calls.mono HC.out ?_
  rintro e w0 ⟨rfl, hx⟩
  have X0 := hid hx
  clear hx
  go_wp2
  go_returns
  exact ⟨rfl, X0.out⟩
def SplitOut (kind : Int) (l : List Cel) (w : World) (e : Ending) (w' : World) : Prop :=
  ∃ C n c D m d, e = .returned (.tuple #[.slice C n c, .slice D m d, .int .i64 (Cel.cchk kind l : Nat)]) ∧ Ext w w' ∧ n ≤ c ∧ m ≤ d ∧
    ((Cel.cchk kind l = 0 ∧ n = l.length ∧ m = (Cel.dense l).length ∧ Rd w' C (bls (thereL l)) ∧ Rd w' D (cls (Cel.dense l))) ∨ (Cel.cchk kind l ≠ 0 ∧ n = 0 ∧ m = 0))
theorem split_any (kind : Int) (l : List Cel) (A : Option Addr) (n cap : Nat) (w : World) (hn : l.length = n) (hr : Rd w A (cls l)) (hnl : n ≤ 140737488355328) :
    Calls Tryz.prog 18 #[.int .i64 kind, .slice A n cap] w (SplitOut kind l w) := by
  by_cases hj : Cel.cchk kind l = 0
  · refine (split_yes kind l A n cap w hn hr hj).mono ?_
    rintro e w' ⟨C, c, D, d, rfl, h1, h2, h3, h4, h5⟩
    exact ⟨C, n, c, D, _, d, by rw [hj]; rfl, h5, h3, h4, .inl ⟨hj, hn.symm, rfl, h1, h2⟩⟩
  · refine (split_no kind A n cap (Cel.cchk kind l) w (by rw [bne_iff_ne]; omega) (hid (ncheck_any kind l A n cap w hn hr hnl))).mono ?_
    rintro e w' ⟨rfl, h⟩
    exact ⟨none, 0, 0, none, 0, 0, rfl, h, Nat.le_refl _, Nat.le_refl _, .inr ⟨hj, rfl, rfl⟩⟩
end Go.Proofs.YthgnipangcmanaaGreat
end
section
namespace Hy.Mrk
def ones (l : List Bool) : List Nat := l.map fun b => if b then 1 else 0
theorem ones_len (l : List Bool) : (ones l).length = l.length := List.length_map _
theorem ones_take (l : List Bool) (k : Nat) (h : k < l.length) : ones (l.take (k + 1)) = ones (l.take k) ++ [if l[k] then 1 else 0] := by
  unfold ones; rw [List.take_succ_eq_append_getElem h, List.map_append]; rfl
theorem ones_lt (l : List Bool) : ∀ x ∈ ones l, x < 18446744073709551616 := fun x hx => by
  obtain ⟨b, _, rfl⟩ := List.mem_map.1 hx
  cases b <;> decide
def marks (l : List Nat) : List Bool := l.map fun x => decide (x = 1)
theorem marks_len (l : List Nat) : (marks l).length = l.length := List.length_map _
theorem marks_take (l : List Nat) (k : Nat) (h : k < l.length) : marks (l.take (k + 1)) = marks (l.take k) ++ [decide (l[k] = 1)] := by
  unfold marks; rw [List.take_succ_eq_append_getElem h, List.map_append]; rfl
end Hy.Mrk
namespace Go.Proofs.YthgnipangcmanaaGreat
open Go.RowKit Hy
set_option maxHeartbeats 1600000 in
theorem onesOf_any (l : List Bool) (A : Option Addr) (n cap : Nat) (w : World) (hn : l.length = n) (hr : Rd w A (bls l)) (hnl : n ≤ 17592186044416) :
    Calls Tryz.prog 35 #[.slice A n cap] w fun e w' => ∃ B c, e = .returned (.slice B n c) ∧ Rd w' B (u64s (Mrk.ones l)) ∧ Ext w w' := by
  have HN := hid hn
  have HA := hid hr
  have HL := hid hnl
  have hnI : (n : Int) ≤ 17592186044416 := by omega
  clear hn hr hnl
  go_enter Tryz.func35, Tryz.ntmps35
  go_wp2
  go_loopw [3, 4] (fun x c wr => ∃ k : Nat, k ≤ n ∧ c = .int .i64 k ∧ wr.ownsRow w.heap.size 34 1 x k (u64s (Mrk.ones (l.take k))) ∧ Ext w wr) (fun _ c _ => n - (intOf c).toNat)
  case atStart => exact ⟨0, Nat.zero_le _, rfl, World.ownsRow_nil _ _ _ _, ext_refl _⟩
  case round =>
    obtain ⟨k, hk, rfl, hown, X⟩ := hrel
    by_cases hlt : k < n
    · have hka : k < l.length := by rw [HN.out]; exact hlt
      obtain ⟨b1, o1, e1, l1, c1⟩ := HA.out.bool (by omega)
      subst e1
      have d0 := (X.cell (p := ⟨b1, o1 + k, none⟩) l1).trans (c1 k hka)
      have HE := hid (Mrk.ones_take l k hka)
      have HO := hid hown
      generalize l[k] = c at *
      generalize Mrk.ones (l.take k) = D at *
      clear c1 hka hown
      cases c with
      | true =>
        go_wp2_with (at_builtin; go_loud (refine wpList_app rfl (.tmp 15) (.tmp 16) rowU64 rfl _ k (u64s D) rfl (own_ext HO.out (Ext.new (ext_refl _) _)) _ 1 (u64s [1]) rfl (Src.rd Tryz.underlying58 _ 1 1 _ rfl (rd_lit rfl rfl) (u64s_one _) (fun h => by cases h)) (by have := HL.out; simp only [maxLen]; omega) (by have := HL.out; omega) (by have := X.size; simp; omega) ?_; intro v' w5 hown5 hgrow hat hbel))
        go_roundw
        case rel => exact ⟨k + 1, by omega, by go_num, by rw [HE.out, u64s_app]; exact hown5, (Ext.new X _).trans hbel⟩
        case measure => simp [intOf]; omega
      | false =>
        go_wp2_with (at_builtin; go_loud (refine wpList_app rfl (.tmp 18) (.tmp 19) rowU64 rfl _ k (u64s D) rfl (own_ext HO.out (Ext.new (ext_refl _) _)) _ 1 (u64s [0]) rfl (Src.rd Tryz.underlying58 _ 1 1 _ rfl (rd_lit rfl rfl) (u64s_one _) (fun h => by cases h)) (by have := HL.out; simp only [maxLen]; omega) (by have := HL.out; omega) (by have := X.size; simp; omega) ?_; intro v' w5 hown5 hgrow hat hbel))
        go_roundw
        case rel => exact ⟨k + 1, by omega, by go_num, by rw [HE.out, u64s_app]; exact hown5, (Ext.new X _).trans hbel⟩
        case measure => simp [intOf]; omega
    · obtain rfl : k = n := by omega
      obtain ⟨B, c, rfl, hrd, hB, hc, hcm⟩ := Rd.owned hown
      have HRD := hid hrd
      clear hown hrd hB hc hcm
      go_wp2
      go_returns
      have e : l.take k = l := List.take_of_length_le (by rw [HN.out]; exact Nat.le_refl _)
      rw [e] at HRD
      exact ⟨B, c, rfl, HRD.out, X⟩
end Go.Proofs.YthgnipangcmanaaGreat
end
section
namespace Go.Proofs.YthgnipangcmanaaGreat
open Go.RowKit Hy
set_option maxHeartbeats 1600000 in
theorem of_any (s : ByteArray) (many : Int) (w : World) :
    Calls Tryz.prog 78 #[.string s, .int .i64 many] w fun e w' => ∃ B c, e = .returned (.tuple #[.slice B (Bits.up s.data.toList many 1).length c, .int .i64 (Bits.chk s.data.toList many 1)]) ∧ Rd w' B (bls (Mrk.marks (Bits.up s.data.toList many 1))) ∧ Ext w w' := by
  have HU := hid (unpack_any s many 1 w)
  have HZ := hid (fun h : Bits.chk s.data.toList many 1 ≠ 0 => Bits.up_bad s.data.toList many 1 h)
  have hc5 := Bits.chk_cases s.data.toList many 1
  have HM := hid (show (Bits.up s.data.toList many 1).length ≤ 64 from by
    by_cases h : Bits.chk s.data.toList many 1 = 0
    · rw [Bits.up_ok _ _ _ h, Bits.unp_len]; have := Bits.chk_ok h; omega
    · rw [Bits.up_bad _ _ _ h]; decide)
  generalize Bits.chk s.data.toList many 1 = er at *
  generalize Bits.up s.data.toList many 1 = L at *
  by_cases h0 : er = 0
  · subst h0
    clear hc5
    obtain ⟨n, hn⟩ : ∃ n, n = L.length := ⟨_, rfl⟩
    have HN := hid hn.symm
    have hnI : (n : Int) ≤ 64 := by have := HM.out; omega
    rw [← hn]
    go_enter Tryz.func78, Tryz.ntmps78
    go_wp2_with fail
    refine Calls.mono HU.out ?_
    rintro e w1 ⟨A, cap, rfl, hr, hx⟩
    rw [← hn]
    have HA := hid hr
    have HX := hid hx
    clear hr hx hn
    go_wp2
    go_loopw [8, 10, 22] (fun x _ c wr => ∃ k : Nat, k ≤ n ∧ c = .int .i64 k ∧ wr.ownsRow w1.heap.size 4 1 x k (bls (Mrk.marks (L.take k))) ∧ Ext w1 wr) (fun _ _ c _ => n - (intOf c).toNat)
    case atStart => exact ⟨0, Nat.zero_le _, rfl, World.ownsRow_nil _ _ _ _, ext_refl _⟩
    case round =>
      obtain ⟨k, hk, rfl, hown, X⟩ := hrel
      by_cases hlt : k < n
      · have hka : k < L.length := by rw [HN.out]; exact hlt
        obtain ⟨b1, o1, e1, l1, c1⟩ := HA.out.u64 (by omega)
        subst e1
        have d0 := (X.cell (p := ⟨b1, o1 + k, none⟩) l1).trans (c1 k hka)
        have HE := hid (Mrk.marks_take L k hka)
        have HO := hid hown
        generalize L[k] = c at *
        generalize Mrk.marks (L.take k) = D at *
        obtain ⟨q, hq⟩ : ∃ q, q = decide (c = 1) := ⟨_, rfl⟩
        have e2 : ((c : Int) == 1) = q := by rw [hq, Bool.eq_iff_iff]; simp; omega
        rw [← hq] at HE
        clear c1 hka hown hq
        go_wp2_with (at_builtin; go_loud (refine wpList_app rfl (.tmp 26) (.tmp 29) rowBl rfl _ k (bls D) rfl (own_ext HO.out (Ext.new (ext_refl _) _)) _ 1 (bls [q]) rfl (Src.rd Tryz.underlying39 _ 1 1 _ rfl (rd_lit rfl rfl) (bls_one _) (fun h => by cases h)) (by simp only [maxLen]; omega) (by omega) (by have := X.size; simp; omega) ?_; intro v' w5 hown5 hgrow hat hbel))
        go_roundw
        case rel => exact ⟨k + 1, by omega, by go_num, by rw [HE.out, bls_app]; exact hown5, (Ext.new X _).trans hbel⟩
        case measure => simp [intOf]; omega
      · obtain rfl : k = n := by omega
        obtain ⟨B, c, rfl, hrd, hB, hc, hcm⟩ := Rd.owned hown
        have e : L.take k = L := List.take_of_length_le (by rw [HN.out]; exact Nat.le_refl _)
        rw [e] at hrd
        have HRD := hid hrd
        clear hown hrd hB hc hcm e
        go_wp2
        go_returns
        exact ⟨B, c, rfl, HRD.out, HX.out.then X⟩
  · have HZ' := hid (HZ.out h0)
    have h3 : ((er : Int) != 0) = true := by rw [bne_iff_ne]; omega
    clear h0 hc5 HM HZ
    go_enter Tryz.func78, Tryz.ntmps78
    go_wp2_with fail
    refine Calls.mono HU.out ?_
    rintro e w1 ⟨A, cap, rfl, hr, hx⟩
    have HX := hid hx
    clear hr hx
    go_wp2
    go_returns
    exact ⟨none, 0, by rw [HZ'.out]; rfl, fun h => by rw [HZ'.out] at h; simp [bls, Mrk.marks] at h, HX.out⟩
end Go.Proofs.YthgnipangcmanaaGreat
end
section
namespace Hy.Pge
open Go Hy.Cel
abbrev Tx := List UInt8
def nums (l : List Cel) : List Nat := l.map fun c => c.2.1
def wrds (l : List Cel) : List Tx := l.map fun c => c.2.2.data.toList
theorem nums_len (l : List Cel) : (nums l).length = l.length := List.length_map _
theorem wrds_len (l : List Cel) : (wrds l).length = l.length := List.length_map _
theorem nums_take (l : List Cel) (k : Nat) (h : k < l.length) : nums (l.take (k + 1)) = nums (l.take k) ++ [l[k].2.1] := by
  unfold nums; rw [List.take_succ_eq_append_getElem h, List.map_append]; rfl
theorem wrds_take (l : List Cel) (k : Nat) (h : k < l.length) : wrds (l.take (k + 1)) = wrds (l.take k) ++ [l[k].2.2.data.toList] := by
  unfold wrds; rw [List.take_succ_eq_append_getElem h, List.map_append]; rfl
def pck (kind : Int) (d : List Cel) : Tx := if kind = 1 then Cod.up (Cod.nm (nums d)) 1 3 else Cod.up (Cod.tx (wrds d)) 5 2
def mks (l : List Cel) : Tx := if (dense l).length < l.length then Bits.packed (Mrk.ones (thereL l)) 1 else []
def dns (kind : Int) (l : List Cel) : Tx := if 0 < (dense l).length then pck kind (dense l) else []
def bdy (kind : Int) (l : List Cel) : Tx := UInt8.ofNat kind.toNat :: (Vary.wr l.length ++ Vary.wr (dense l).length ++ mks l ++ dns kind l)
def sl4 (b : Tx) : Tx := Vary.be (Adler.more 1 b) 4
def sld (b : Tx) : Tx := Vary.wr b.length ++ b ++ sl4 b
def wrt (kind : Int) (l : List Cel) : Tx × Nat := if cchk kind l ≠ 0 then ([], cchk kind l) else (sld (bdy kind l), 0)
/-! what is right -/
theorem alone_len {kind : Int} {c : Cel} (h : alone kind c = 0) : c.2.2.size ≤ 16 := by
  unfold alone at h
  (repeat' split at h) <;> first | omega | (cases h)
theorem wrds_fit {kind : Int} {l : List Cel} (h : cchk kind l = 0) : ∀ s ∈ wrds (dense l), s.length ≤ 16 := by
  intro s hs
  obtain ⟨c, hc, rfl⟩ := List.mem_map.1 hs
  have := alone_len ((cchk_iff.1 h).2.2 c (List.mem_filter.1 hc).1)
  rw [Array.length_toList]; exact this
theorem pck_len {kind : Int} {l : List Cel} (h : cchk kind l = 0) (hl : ∀ x ∈ nums (dense l), x < 18446744073709551616) : (pck kind (dense l)).length ≤ 2001 := by
  have hd := dense_len l
  have h64 := (cchk_iff.1 h).2.1
  unfold pck
  split
  · exact Cod.up_len _ 1 3 2000 fun j => Cod.nm_len _ j (by rw [nums_len]; omega) hl
  · exact Cod.up_len _ 5 2 2000 fun j => Cod.tx_len _ j (by rw [wrds_len]; omega) (wrds_fit h)
theorem ones_lt2 (l : List Bool) : ∀ x ∈ Mrk.ones l, x < 2 ^ 1 := fun x hx => by
  obtain ⟨b, _, rfl⟩ := List.mem_map.1 hx
  cases b <;> decide
theorem mks_len {l : List Cel} (h : l.length ≤ 64) : (mks l).length ≤ 8 := by
  unfold mks
  split
  · rw [Bits.packed_len, Mrk.ones_len, thereL_len]; unfold Bits.size; omega
  · simp
theorem bdy_len {kind : Int} {l : List Cel} (h : cchk kind l = 0) (hl : ∀ x ∈ nums (dense l), x < 18446744073709551616) : (bdy kind l).length ≤ 2040 := by
  have h64 := (cchk_iff.1 h).2.1
  have h1 := mks_len h64
  have h2 := Vary.beh_le8 l.length
  have h3 := Vary.beh_le8 (dense l).length
  have h4 : (dns kind l).length ≤ 2001 := by
    unfold dns
    split
    · exact pck_len h hl
    · simp
  unfold bdy
  rw [List.length_cons, List.length_append, List.length_append, List.length_append, Vary.wr_len, Vary.wr_len]
  omega
theorem sl4_len (b : Tx) : (sl4 b).length = 4 := Vary.be_len _ _
theorem seal_len (b : Tx) : (sld b).length = Vary.beh b.length + 1 + b.length + 4 := by
  unfold sld
  rw [List.length_append, List.length_append, Vary.wr_len, sl4_len]
theorem more_lt (c : Nat) (b : Tx) : Adler.more c b < 4294967296 := Adler.sum_lt _
theorem unbe4 (b : Tx) : Vary.unbe 0 (sl4 b) = Adler.more 1 b := by
  unfold sl4
  rw [Vary.unbe_be]
  have := more_lt 1 b
  omega
/-! reading -/
@[irreducible] def uns (s : Tx) : Tx × Nat × Nat :=
  if (Vary.rd s).2.2 ≠ 0 then ([], 0, (Vary.rd s).2.2)
  else if (s.drop (Vary.rd s).2.1).length < (Vary.rd s).1 + 4 then ([], 0, 5)
  else if Adler.more 1 ((s.drop (Vary.rd s).2.1).take (Vary.rd s).1) ≠ Vary.unbe 0 (((s.drop (Vary.rd s).2.1).drop (Vary.rd s).1).take 4) then ([], 0, 9)
  else ((s.drop (Vary.rd s).2.1).take (Vary.rd s).1, (Vary.rd s).2.1 + (Vary.rd s).1 + 4, 0)
section
variable {s r : Tx} {n k e : Nat}
theorem uns_vary (h : Vary.rd s = (n, k, e)) (he : e ≠ 0) : uns s = ([], 0, e) := by unfold uns; rw [h, if_pos he]
theorem uns_none (h : Vary.rd s = (n, k, 0)) (hr : s.drop k = r) (h2 : r.length < n + 4) : uns s = ([], 0, 5) := by unfold uns; rw [h, if_neg (by simp)]; simp only [hr]; rw [if_pos h2]
theorem uns_sum (h : Vary.rd s = (n, k, 0)) (hr : s.drop k = r) (h2 : ¬ r.length < n + 4) (h3 : Adler.more 1 (r.take n) ≠ Vary.unbe 0 ((r.drop n).take 4)) : uns s = ([], 0, 9) := by
  unfold uns; rw [h, if_neg (by simp)]; simp only [hr]; rw [if_neg h2, if_pos h3]
theorem uns_ok (h : Vary.rd s = (n, k, 0)) (hr : s.drop k = r) (h2 : ¬ r.length < n + 4) (h3 : Adler.more 1 (r.take n) = Vary.unbe 0 ((r.drop n).take 4)) : uns s = (r.take n, k + n + 4, 0) := by
  unfold uns; rw [h, if_neg (by simp)]; simp only [hr]; rw [if_neg h2, if_neg (fun x => x h3)]
end
@[irreducible] def hd (s : Tx) : Nat × Nat × Nat × Tx × Nat := match s with
  | [] => (0, 0, 0, [], 5)
  | c :: t => if c.toNat ≠ 1 ∧ c.toNat ≠ 2 then (0, 0, 0, [], 7)
    else if (Vary.rd t).2.2 ≠ 0 then (0, 0, 0, [], (Vary.rd t).2.2)
    else if 64 < (Vary.rd t).1 then (0, 0, 0, [], 2)
    else if (Vary.rd (t.drop (Vary.rd t).2.1)).2.2 ≠ 0 then (0, 0, 0, [], (Vary.rd (t.drop (Vary.rd t).2.1)).2.2)
    else if (Vary.rd t).1 < (Vary.rd (t.drop (Vary.rd t).2.1)).1 then (0, 0, 0, [], 4)
    else (c.toNat, (Vary.rd t).1, (Vary.rd (t.drop (Vary.rd t).2.1)).1, (t.drop (Vary.rd t).2.1).drop (Vary.rd (t.drop (Vary.rd t).2.1)).2.1, 0)
section
variable {c : UInt8} {t u : Tx} {n k e m j f : Nat}
theorem hd_nil : hd [] = (0, 0, 0, [], 5) := by unfold hd; rfl
theorem hd_kind (h : c.toNat ≠ 1 ∧ c.toNat ≠ 2) : hd (c :: t) = (0, 0, 0, [], 7) := by unfold hd; simp only; rw [if_pos h]
theorem hd_1 (h : ¬ (c.toNat ≠ 1 ∧ c.toNat ≠ 2)) (h1 : Vary.rd t = (n, k, e)) (he : e ≠ 0) : hd (c :: t) = (0, 0, 0, [], e) := by unfold hd; simp only; rw [if_neg h, h1, if_pos he]
theorem hd_many (h : ¬ (c.toNat ≠ 1 ∧ c.toNat ≠ 2)) (h1 : Vary.rd t = (n, k, 0)) (h2 : 64 < n) : hd (c :: t) = (0, 0, 0, [], 2) := by unfold hd; simp only; rw [if_neg h, h1, if_neg (by simp), if_pos h2]
theorem hd_2 (h : ¬ (c.toNat ≠ 1 ∧ c.toNat ≠ 2)) (h1 : Vary.rd t = (n, k, 0)) (h2 : ¬ 64 < n) (hu : t.drop k = u) (h3 : Vary.rd u = (m, j, f)) (hf : f ≠ 0) : hd (c :: t) = (0, 0, 0, [], f) := by
  unfold hd; simp only; rw [if_neg h, h1, if_neg (by simp), if_neg h2]; simp only [hu, h3]; rw [if_pos hf]
theorem hd_state (h : ¬ (c.toNat ≠ 1 ∧ c.toNat ≠ 2)) (h1 : Vary.rd t = (n, k, 0)) (h2 : ¬ 64 < n) (hu : t.drop k = u) (h3 : Vary.rd u = (m, j, 0)) (h4 : n < m) : hd (c :: t) = (0, 0, 0, [], 4) := by
  unfold hd; simp only; rw [if_neg h, h1, if_neg (by simp), if_neg h2]; simp only [hu, h3]; rw [if_neg (by simp), if_pos h4]
theorem hd_ok (h : ¬ (c.toNat ≠ 1 ∧ c.toNat ≠ 2)) (h1 : Vary.rd t = (n, k, 0)) (h2 : ¬ 64 < n) (hu : t.drop k = u) (h3 : Vary.rd u = (m, j, 0)) (h4 : ¬ n < m) : hd (c :: t) = (c.toNat, n, m, u.drop j, 0) := by
  unfold hd; simp only; rw [if_neg h, h1, if_neg (by simp), if_neg h2]; simp only [hu, h3]; rw [if_neg (by simp), if_neg h4]
end
@[irreducible] def mk (many there : Nat) (s : Tx) : List Bool × Tx × Nat :=
  if there = many then (List.replicate many true, s, 0)
  else if s.length < Bits.size many 1 then ([], [], 5)
  else if Bits.chk (s.take (Bits.size many 1)) many 1 ≠ 0 then ([], [], Bits.chk (s.take (Bits.size many 1)) many 1)
  else if (Mrk.marks (Bits.up (s.take (Bits.size many 1)) many 1)).count true ≠ there then ([], [], 1)
  else (Mrk.marks (Bits.up (s.take (Bits.size many 1)) many 1), s.drop (Bits.size many 1), 0)
section
variable {many there z : Nat} {s : Tx}
theorem mk_all : mk many many s = (List.replicate many true, s, 0) := by unfold mk; rw [if_pos rfl]
theorem mk_none (h : there ≠ many) (hz : Bits.size many 1 = z) (h1 : s.length < z) : mk many there s = ([], [], 5) := by unfold mk; rw [if_neg h, hz, if_pos h1]
theorem mk_chk (h : there ≠ many) (hz : Bits.size many 1 = z) (h1 : ¬ s.length < z) (h2 : Bits.chk (s.take z) many 1 ≠ 0) : mk many there s = ([], [], Bits.chk (s.take z) many 1) := by unfold mk; rw [if_neg h, hz, if_neg h1, if_pos h2]
theorem mk_form (h : there ≠ many) (hz : Bits.size many 1 = z) (h1 : ¬ s.length < z) (h2 : Bits.chk (s.take z) many 1 = 0) (h3 : (Mrk.marks (Bits.up (s.take z) many 1)).count true ≠ there) : mk many there s = ([], [], 1) := by
  unfold mk; rw [if_neg h, hz, if_neg h1, if_neg (fun x => x h2), if_pos h3]
theorem mk_ok (h : there ≠ many) (hz : Bits.size many 1 = z) (h1 : ¬ s.length < z) (h2 : Bits.chk (s.take z) many 1 = 0) (h3 : (Mrk.marks (Bits.up (s.take z) many 1)).count true = there) : mk many there s = (Mrk.marks (Bits.up (s.take z) many 1), s.drop z, 0) := by
  unfold mk; rw [if_neg h, hz, if_neg h1, if_neg (fun x => x h2), if_neg (fun x => x h3)]
end
def nCel (n : Nat) : Cel := (1, n, ⟨#[]⟩)
def tCel (s : Tx) : Cel := (2, 0, ⟨s.toArray⟩)
@[irreducible] def dn (kind there : Nat) (s : Tx) : List Cel × Nat :=
  if there = 0 then (if s = [] then ([], 0) else ([], 1))
  else if kind = 1 then ((Cod.rnm s there).1.map nCel, (Cod.rnm s there).2)
  else ((Cod.rtx s there).1.map tCel, (Cod.rtx s there).2)
theorem dn_nil (kind : Nat) : dn kind 0 [] = ([], 0) := by unfold dn; rfl
theorem dn_form (kind : Nat) {s : Tx} (h : s ≠ []) : dn kind 0 s = ([], 1) := by unfold dn; rw [if_pos rfl, if_neg h]
theorem dn_num {there : Nat} (h : there ≠ 0) (s : Tx) : dn 1 there s = ((Cod.rnm s there).1.map nCel, (Cod.rnm s there).2) := by unfold dn; rw [if_neg h, if_pos rfl]
theorem dn_txt {there : Nat} (h : there ≠ 0) (s : Tx) : dn 2 there s = ((Cod.rtx s there).1.map tCel, (Cod.rtx s there).2) := by unfold dn; rw [if_neg h, if_neg (by decide)]
@[irreducible] def cel (s : Tx) : Nat × List Cel × Nat :=
  if (hd s).2.2.2.2 ≠ 0 then (0, [], (hd s).2.2.2.2)
  else if (mk (hd s).2.1 (hd s).2.2.1 (hd s).2.2.2.1).2.2 ≠ 0 then (0, [], (mk (hd s).2.1 (hd s).2.2.1 (hd s).2.2.2.1).2.2)
  else if (dn (hd s).1 (hd s).2.2.1 (mk (hd s).2.1 (hd s).2.2.1 (hd s).2.2.2.1).2.1).2 ≠ 0 then (0, [], (dn (hd s).1 (hd s).2.2.1 (mk (hd s).2.1 (hd s).2.2.1 (hd s).2.2.2.1).2.1).2)
  else ((hd s).1, jout (hd s).1 (mk (hd s).2.1 (hd s).2.2.1 (hd s).2.2.2.1).1 (dn (hd s).1 (hd s).2.2.1 (mk (hd s).2.1 (hd s).2.2.1 (hd s).2.2.2.1).2.1).1,
    jchk (hd s).1 (mk (hd s).2.1 (hd s).2.2.1 (hd s).2.2.2.1).1 (dn (hd s).1 (hd s).2.2.1 (mk (hd s).2.1 (hd s).2.2.1 (hd s).2.2.2.1).2.1).1)
section
variable {s r r2 : Tx} {kind many there e : Nat} {b : List Bool} {d : List Cel}
theorem cel_1 (h : hd s = (kind, many, there, r, e)) (he : e ≠ 0) : cel s = (0, [], e) := by unfold cel; rw [h, if_pos he]
theorem cel_2 (h : hd s = (kind, many, there, r, 0)) (h2 : mk many there r = (b, r2, e)) (he : e ≠ 0) : cel s = (0, [], e) := by unfold cel; rw [h, if_neg (by simp)]; simp only [h2]; rw [if_pos he]
theorem cel_3 (h : hd s = (kind, many, there, r, 0)) (h2 : mk many there r = (b, r2, 0)) (h3 : dn kind there r2 = (d, e)) (he : e ≠ 0) : cel s = (0, [], e) := by
  unfold cel; rw [h, if_neg (by simp)]; simp only [h2]; rw [if_neg (by simp)]; simp only [h3]; rw [if_pos he]
theorem cel_end (h : hd s = (kind, many, there, r, 0)) (h2 : mk many there r = (b, r2, 0)) (h3 : dn kind there r2 = (d, 0)) : cel s = (kind, jout kind b d, jchk kind b d) := by
  unfold cel; rw [h, if_neg (by simp)]; simp only [h2]; rw [if_neg (by simp)]; simp only [h3]; rw [if_neg (by simp)]
end
@[irreducible] def pgr (s : Tx) : Nat × List Cel × Nat × Nat :=
  if (uns s).2.2 ≠ 0 then (0, [], 0, (uns s).2.2) else if (cel (uns s).1).2.2 ≠ 0 then (0, [], 0, (cel (uns s).1).2.2) else ((cel (uns s).1).1, (cel (uns s).1).2.1, (uns s).2.1, 0)
section
variable {s b : Tx} {n e kind : Nat} {l : List Cel}
theorem pgr_1 (h : uns s = (b, n, e)) (he : e ≠ 0) : pgr s = (0, [], 0, e) := by unfold pgr; rw [h, if_pos he]
theorem pgr_2 (h : uns s = (b, n, 0)) (h2 : cel b = (kind, l, e)) (he : e ≠ 0) : pgr s = (0, [], 0, e) := by unfold pgr; rw [h, if_neg (by simp)]; simp only [h2]; rw [if_pos he]
theorem pgr_ok (h : uns s = (b, n, 0)) (h2 : cel b = (kind, l, 0)) : pgr s = (kind, l, n, 0) := by unfold pgr; rw [h, if_neg (by simp)]; simp only [h2]; rw [if_neg (by simp)]
end
end Hy.Pge
end
section
namespace Hy.Pge
open Go
theorem rd_le (s : Tx) : (Vary.rd s).2.1 ≤ s.length ∧ (Vary.rd s).1 < 18446744073709551616 ∧ (Vary.rd s).2.2 ≤ 5 := by
  rcases Vary.rd_cases s with h | h | ⟨n, k, h, h1, h2, h3, _⟩
  · rw [h]; exact ⟨Nat.zero_le _, by decide, by decide⟩
  · rw [h]; exact ⟨Nat.zero_le _, by decide, by decide⟩
  · rw [h]; exact ⟨h2, h3, Nat.zero_le _⟩
end Hy.Pge
namespace Go.Proofs.YthgnipangcmanaaGreat
open Go.RowKit Hy
theorem But.then {g : Nat} {w w1 w2 : World} (h : But g w w1) (k : But g w1 w2) : But g w w2 :=
  ⟨k.os.trans h.os, k.tape.trans h.tape, k.output.trans h.output, Nat.le_trans h.size k.size, fun i hi hn => (k.block i (Nat.lt_of_lt_of_le hi h.size) hn).trans (h.block i hi hn)⟩
set_option maxHeartbeats 1600000 in
theorem number_any (S R : ByteArray) (g : Nat) (w : World) (n k er : Nat) (hB : Blk w g 81 #[.string S]) (hrd : Vary.rd S.data.toList = (n, k, er)) (hR : R = ⟨(S.data.toList.drop k).toArray⟩) :
    Calls Tryz.prog 77 #[.pointer (some ⟨g, 0, none⟩)] w fun e w' => e = .returned (.tuple #[.int .u64 n, .int .i64 er]) ∧ But g w w' ∧ Blk w' g 81 #[.string R] := by
  have CR := hid (fun wx => read_any S wx)
  rw [hrd] at CR
  simp only at CR
  have hk := (Pge.rd_le S.data.toList).1
  rw [hrd, Array.length_toList] at hk
  have hT := fun wx : World => run_from (P := Tryz.prog) (w := wx) Tryz.underlying9 S .i64 k hk
  rw [← hR] at hT
  have HB := hid hB
  have hc0 := hB.cell 0
  have hf0 := hB.frozen 0
  clear hB hk hrd hR
  go_enter Tryz.func77, Tryz.ntmps77
  go_wp2_with (go_at_call 52; refine Calls.mono (CR.out _) ?_; rintro e w2 ⟨rfl, b2⟩; have B2 := hid (HB.out.keep b2); have X2 := hid b2; have hc02 := B2.out.cell 0; have hf02 := B2.out.frozen 0; clear b2 hc0 hf0)
  go_returns
  exact ⟨rfl, ((but_refl g w).ext X2.out).put ⟨g, 0, none⟩ (.inl rfl) _, (B2.out.set 0 _).cast rfl⟩
def HeadOut (s : Pge.Tx) (g : Nat) (t : TypeId) (w : World) (e : Ending) (w' : World) : Prop :=
  ∃ a b c : Int, e = .returned (.tuple #[.int .i64 a, .int .i64 b, .int .i64 c, .int .i64 ((Pge.hd s).2.2.2.2 : Nat)]) ∧ But g w w' ∧
    ((Pge.hd s).2.2.2.2 = 0 → a = ((Pge.hd s).1 : Nat) ∧ b = ((Pge.hd s).2.1 : Nat) ∧ c = ((Pge.hd s).2.2.1 : Nat) ∧ Blk w' g t #[.string ⟨(Pge.hd s).2.2.2.1.toArray⟩])
set_option maxRecDepth 100000 in
set_option maxHeartbeats 3200000 in
theorem head_any (S : ByteArray) (g : Nat) (w : World) (hB : Blk w g 81 #[.string S]) (hs : S.size ≤ 281474976710656) :
    Calls Tryz.prog 53 #[.pointer (some ⟨g, 0, none⟩)] w (HeadOut S.data.toList g 81 w) := by
  have HB := hid hB
  have hlt := hB.lt
  cases hl : S.data.toList with
  | nil =>
    have e0 : S = ⟨#[]⟩ := by apply ByteArray.ext; exact Array.toList_eq_nil_iff.1 hl
    subst e0
    have HE := hid Pge.hd_nil
    have hc0 := hB.cell 0
    have hf0 := hB.frozen 0
    clear hB hs hl
    go_enter Tryz.func53, Tryz.ntmps53
    go_wp2
    go_returns
    exact ⟨0, 0, 0, by rw [HE.out]; rfl, but_refl g w, fun h => absurd h (by rw [HE.out]; decide)⟩
  | cons c t =>
    have hsz : S.size = t.length + 1 := by
      have := congrArg List.length hl
      rw [Array.length_toList, List.length_cons] at this
      exact this
    have e1 : S.toList.isEmpty = false := by
      obtain ⟨a⟩ := S
      rw [ByteArray.toList_mk]
      simp only at hl
      rw [hl]; rfl
    have e2 : (S.toList == []) = false := by
      rw [beq_eq_false_iff_ne]
      intro h
      rw [h] at e1
      cases e1
    have hix := fun wx : World => run_ix0 (P := Tryz.prog) (w := wx) Tryz.underlying9 S .i64 c t hl
    have hfr := fun wx : World => run_from (P := Tryz.prog) (w := wx) Tryz.underlying9 S .i64 1 (by omega)
    rw [hl, List.drop_succ_cons, List.drop_zero] at hfr
    rw [show ((1 : Nat) : Int) = 1 from rfl] at hfr
    have hcI : (c.toNat : Int) < 256 := by have := c.toNat_lt; omega
    have hc0I : (0 : Int) ≤ (c.toNat : Int) := by omega
    obtain ⟨cc, hcc⟩ : ∃ cc : Int, cc = (c.toNat : Int) := ⟨_, rfl⟩
    have hwc : IntKind.i64.wrap cc = cc := by rw [IntKind.wrap_i64]; omega
    rw [← hcc] at hix hcI hc0I
    have CK := hid (fun wx => kind_any cc wx)
    have hc0 := hB.cell 0
    have hf0 := hB.frozen 0
    by_cases hk : c.toNat ≠ 1 ∧ c.toNat ≠ 2
    · have HE := hid (Pge.hd_kind (t := t) hk)
      rw [decide_eq_false (by omega)] at CK
      clear hB hs hl hsz hk hcc
      go_enter Tryz.func53, Tryz.ntmps53
      go_wp2_with fail
      refine Calls.mono (CK.out _) ?_
      rintro e _ ⟨rfl, rfl⟩
      go_wp2
      go_returns
      exact ⟨0, 0, 0, by rw [HE.out]; rfl, but_refl g w, fun h => absurd h (by rw [HE.out]; decide)⟩
    · rw [decide_eq_true (by omega)] at CK
      have HK := hid hcc
      obtain ⟨T, hT⟩ : ∃ T : ByteArray, T = ⟨t.toArray⟩ := ⟨_, rfl⟩
      rw [← hT] at hfr
      have hTd : T.data.toList = t := by rw [hT]
      have hTs : T.size = t.length := by rw [hT, str_size]
      obtain ⟨n, k, er, hrd⟩ : ∃ n k er, Vary.rd t = (n, k, er) := ⟨_, _, _, rfl⟩
      obtain ⟨u, hu⟩ : ∃ u, u = t.drop k := ⟨_, rfl⟩
      obtain ⟨U, hU⟩ : ∃ U : ByteArray, U = ⟨u.toArray⟩ := ⟨_, rfl⟩
      have hUd : U.data.toList = u := by rw [hU]
      have hUs : U.size = u.length := by rw [hU, str_size]
      have hul : u.length ≤ t.length := by rw [hu, List.length_drop]; omega
      have C1 := hid (fun wx hBx => number_any T U g wx n k er hBx (by rw [hTd]; exact hrd) (by rw [hTd, hU, hu]))
      have hn := (Pge.rd_le t).2.1
      have he5 := (Pge.rd_le t).2.2
      rw [hrd] at hn he5
      simp only at hn he5
      have hnI : (n : Int) ≤ 18446744073709551615 := by omega
      have hn0I : (0 : Int) ≤ (n : Int) := by omega
      have HB1 := hid ((hB.set 0 (.string T)).cast (cs' := #[.string T]) rfl)
      have X0 := hid ((but_refl g w).put ⟨g, 0, none⟩ (.inl rfl) (.string T))
      by_cases he : er = 0
      · subst he
        by_cases h64 : 64 < n
        · have HE := hid (Pge.hd_many hk hrd h64)
          have h64I : (64 : Int) < (n : Int) := by omega
          clear hB hs hl hsz hk hcc hT hTd hTs hrd hu hU hUd hUs hul hn he5 h64
          go_enter Tryz.func53, Tryz.ntmps53
          go_wp2_with fail
          refine Calls.mono (CK.out _) ?_
          rintro e _ ⟨rfl, rfl⟩
          go_wp2_with fail
          refine Calls.mono (C1.out _ HB1.out) ?_
          rintro e w1 ⟨rfl, hx, hb⟩
          have X1 := hid (But.then X0.out hx)
          clear hx hb hc0 hf0
          go_wp2
          go_returns
          exact ⟨0, 0, 0, by rw [HE.out]; rfl, X1.out, fun h => absurd h (by rw [HE.out]; decide)⟩
        · obtain ⟨m, j, f, hrd2⟩ : ∃ m j f, Vary.rd u = (m, j, f) := ⟨_, _, _, rfl⟩
          obtain ⟨V, hV⟩ : ∃ V : ByteArray, V = ⟨(u.drop j).toArray⟩ := ⟨_, rfl⟩
          have C2 := hid (fun wx hBx => number_any U V g wx m j f hBx (by rw [hUd]; exact hrd2) (by rw [hUd, hV]))
          have hm := (Pge.rd_le u).2.1
          have hf5 := (Pge.rd_le u).2.2
          rw [hrd2] at hm hf5
          simp only at hm hf5
          have hmI : (m : Int) ≤ 18446744073709551615 := by omega
          have hm0I : (0 : Int) ≤ (m : Int) := by omega
          have h64I : (n : Int) ≤ 64 := by omega
          have hwn : IntKind.i64.wrap (n : Int) = (n : Int) := by rw [IntKind.wrap_i64]; omega
          by_cases hf : f = 0
          · subst hf
            by_cases hmn : n < m
            · have HE := hid (Pge.hd_state hk hrd h64 hu.symm hrd2 hmn)
              have hmnI : (n : Int) < (m : Int) := by omega
              clear hB hs hl hsz hk hcc hT hTd hTs hrd hu hU hUd hUs hul hn he5 h64 hrd2 hV hm hf5 hmn
              go_enter Tryz.func53, Tryz.ntmps53
              go_wp2_with fail
              refine Calls.mono (CK.out _) ?_
              rintro e _ ⟨rfl, rfl⟩
              go_wp2_with fail
              refine Calls.mono (C1.out _ HB1.out) ?_
              rintro e w1 ⟨rfl, hx, hb⟩
              have X1 := hid (But.then X0.out hx)
              have HB2 := hid hb
              clear hx hb hc0 hf0 C1
              go_wp2_with fail
              refine Calls.mono (C2.out _ HB2.out) ?_
              rintro e w2 ⟨rfl, hx, hb⟩
              have X2 := hid (But.then X1.out hx)
              clear hx hb
              go_wp2
              go_returns
              exact ⟨_, _, _, by rw [HE.out]; rfl, X2.out, fun h => absurd h (by rw [HE.out]; decide)⟩
            · have HE := hid (Pge.hd_ok hk hrd h64 hu.symm hrd2 hmn)
              have hmnI : (m : Int) ≤ (n : Int) := by omega
              have hwm : IntKind.i64.wrap (m : Int) = (m : Int) := by rw [IntKind.wrap_i64]; omega
              have HV := hid hV
              clear hB hs hl hsz hk hcc hT hTd hTs hrd hu hU hUd hUs hul hn he5 h64 hrd2 hV hm hf5 hmn
              go_enter Tryz.func53, Tryz.ntmps53
              go_wp2_with fail
              refine Calls.mono (CK.out _) ?_
              rintro e _ ⟨rfl, rfl⟩
              go_wp2_with fail
              refine Calls.mono (C1.out _ HB1.out) ?_
              rintro e w1 ⟨rfl, hx, hb⟩
              have X1 := hid (But.then X0.out hx)
              have HB2 := hid hb
              clear hx hb hc0 hf0 C1
              go_wp2_with fail
              refine Calls.mono (C2.out _ HB2.out) ?_
              rintro e w2 ⟨rfl, hx, hb⟩
              have X2 := hid (But.then X1.out hx)
              have HB3 := hid hb
              clear hx hb
              go_wp2
              go_returns
              exact ⟨_, _, _, by rw [HE.out]; rfl, X2.out, fun _ => by rw [HE.out]; exact ⟨HK.out, rfl, rfl, by have := HB3.out; rw [HV.out] at this; exact this⟩⟩
          · have HE := hid (Pge.hd_2 hk hrd h64 hu.symm hrd2 hf)
            have h3 : ((f : Int) != 0) = true := by rw [bne_iff_ne]; omega
            have h4 : ((f : Int) == 0) = false := by rw [beq_eq_false_iff_ne]; omega
            have HF := hid hf
            clear hB hs hl hsz hk hcc hT hTd hTs hrd hu hU hUd hUs hul hn he5 h64 hrd2 hV hm hf5 hf
            go_enter Tryz.func53, Tryz.ntmps53
            go_wp2_with fail
            refine Calls.mono (CK.out _) ?_
            rintro e _ ⟨rfl, rfl⟩
            go_wp2_with fail
            refine Calls.mono (C1.out _ HB1.out) ?_
            rintro e w1 ⟨rfl, hx, hb⟩
            have X1 := hid (But.then X0.out hx)
            have HB2 := hid hb
            clear hx hb hc0 hf0 C1
            go_wp2_with fail
            refine Calls.mono (C2.out _ HB2.out) ?_
            rintro e w2 ⟨rfl, hx, hb⟩
            have X2 := hid (But.then X1.out hx)
            clear hx hb
            go_wp2
            go_returns
            exact ⟨_, _, _, by rw [HE.out], X2.out, fun h => absurd h (by rw [HE.out]; exact HF.out)⟩
      · have HE := hid (Pge.hd_1 hk hrd he)
        have h3 : ((er : Int) != 0) = true := by rw [bne_iff_ne]; omega
        have h4 : ((er : Int) == 0) = false := by rw [beq_eq_false_iff_ne]; omega
        have HF := hid he
        clear hB hs hl hsz hk hcc hT hTd hTs hrd hu hU hUd hUs hul hn he5 he
        go_enter Tryz.func53, Tryz.ntmps53
        go_wp2_with fail
        refine Calls.mono (CK.out _) ?_
        rintro e _ ⟨rfl, rfl⟩
        go_wp2_with fail
        refine Calls.mono (C1.out _ HB1.out) ?_
        rintro e w1 ⟨rfl, hx, hb⟩
        have X1 := hid (But.then X0.out hx)
        clear hx hb hc0 hf0
        go_wp2
        go_returns
        exact ⟨0, 0, 0, by rw [HE.out], X1.out, fun h => absurd h (by rw [HE.out]; exact HF.out)⟩
end Go.Proofs.YthgnipangcmanaaGreat
end
section
namespace Hy.Pge
open Go Hy.Cel
def trow (many i : Nat) : List Value := bls (List.replicate i true ++ List.replicate (many - i) false)
theorem trow_0 (many : Nat) : trow many 0 = List.replicate many (.bool false) := by unfold trow bls; simp
theorem trow_all (many : Nat) : trow many many = bls (List.replicate many true) := by unfold trow; simp
theorem trow_set (many i : Nat) (h : i < many) : (trow many i).toArray.setIfInBounds i (.bool true) = (trow many (i + 1)).toArray := by
  have e : many - i = (many - (i + 1)) + 1 := by omega
  unfold trow bls
  rw [List.setIfInBounds_toArray, e, List.map_append, List.map_append, List.map_replicate, List.map_replicate, List.map_replicate, List.map_replicate]
  congr 1
  apply List.ext_getElem?
  intro j
  rw [List.getElem?_set]
  rcases Nat.lt_trichotomy j i with h1 | h1 | h1
  · rw [if_neg (by omega), List.getElem?_append_left (by rw [List.length_replicate]; omega), List.getElem?_append_left (by rw [List.length_replicate]; omega), List.getElem?_replicate, List.getElem?_replicate, if_pos h1, if_pos (by omega)]
  · subst h1
    rw [if_pos rfl, if_pos (by simp), List.getElem?_append_left (by rw [List.length_replicate]; omega), List.getElem?_replicate, if_pos (by omega)]
  · rw [if_neg (by omega), List.getElem?_append_right (by rw [List.length_replicate]; omega), List.getElem?_append_right (by rw [List.length_replicate]; omega), List.length_replicate, List.length_replicate, List.getElem?_replicate, List.getElem?_replicate]
    by_cases h2 : j < many
    · rw [if_pos (by omega), if_pos (by omega)]
    · rw [if_neg (by omega), if_neg (by omega)]
theorem trow_get (many i : Nat) (h : i < many) : (trow many i)[i]? = some (.bool false) := by
  unfold trow bls
  rw [List.map_append, List.map_replicate, List.map_replicate, List.getElem?_append_right (by rw [List.length_replicate]; omega), List.length_replicate, Nat.sub_self, List.getElem?_replicate, if_pos (by omega)]
theorem madeB (n : Nat) : madeCells #[Value.bool false] n = (List.replicate n (Value.bool false)).toArray := by
  unfold madeCells
  apply Array.ext'
  apply List.ext_getElem <;> simp [Nat.mod_one]
end Hy.Pge
namespace Go.Proofs.YthgnipangcmanaaGreat
open Go.RowKit Hy
theorem Rd.away {w : World} {A : Option Addr} {m : List Bool} {g : Nat} {t : TypeId} {S : ByteArray} (h : Rd w A (bls m)) (hB : Blk w g t #[.string S]) (u : Value) : Rd (w.setCell ⟨g, 0, none⟩ u) A (bls m) :=
  Rd.but h (fun hp b hb => by
    obtain ⟨b', o, e, hlt, hc⟩ := h hp
    rw [hb] at e
    injection e with e
    subst e
    intro hbg
    have hbg' : b' = g := hbg
    subst hbg'
    have h1 := hc 0 _ (bls_get m 0 (by rwa [bls_len] at hp))
    have h2 := hB.cell (o + 0)
    rw [h1] at h2
    cases o with
    | zero => simp at h2
    | succ o => simp at h2) u
theorem info_bool : (Tryz.prog.info? 4).map (fun i => (i.zero, i.size, i.bytes)) = some (some (.bool false), 1, 1) := by kernel_rfl
theorem bools_made (k : Nat) (hk : k ≤ 64) (w : World) : (Instr.makeSlice 39 (.int .i64 (k : Int)) (.int .i64 (k : Int))).run Tryz.prog w =
    .ok (.slice (some ⟨w.heap.size, 0, none⟩) k k) (w.alloc (.cells (Pge.trow k 0).toArray 4)) := by
  obtain ⟨i, hi, hz, hs, hb⟩ := info_parts info_bool
  rw [run_make w 39 4 i (.bool false) (by kernel_rfl) hi hz .i64 .i64 (k : Int) (k : Int) (by omega) (by omega) (by rw [hb]; omega) (by omega)]
  rw [hs, Nat.mul_one, Int.toNat_natCast, show (Value.bool false).cells = #[.bool false] from rfl, Pge.madeB, Pge.trow_0]
def MarksOut (R : List Bool × Pge.Tx × Nat) (g : Nat) (t : TypeId) (w : World) (e : Ending) (w' : World) : Prop :=
  ∃ B n c, e = .returned (.tuple #[.slice B n c, .int .i64 (R.2.2 : Nat)]) ∧ But g w w' ∧ (R.2.2 = 0 → n = R.1.length ∧ Rd w' B (bls R.1) ∧ Blk w' g t #[.string ⟨R.2.1.toArray⟩])
set_option maxRecDepth 100000 in
set_option maxHeartbeats 3200000 in
theorem marks_any (many there : Nat) (S : ByteArray) (g : Nat) (w : World) (hB : Blk w g 81 #[.string S]) (hs : S.size ≤ 281474976710656) (h64 : many ≤ 64) (hth : there ≤ 64) :
    Calls Tryz.prog 54 #[.pointer (some ⟨g, 0, none⟩), .int .i64 many, .int .i64 there] w (MarksOut (Pge.mk many there S.data.toList) g 81 w) := by
  have HB := hid hB
  have hc0 := hB.cell 0
  have hf0 := hB.frozen 0
  have hlt0 := hB.lt
  have hmI : (many : Int) ≤ 64 := by omega
  have htI : (there : Int) ≤ 64 := by omega
  have hm0 : (0 : Int) ≤ (many : Int) := by omega
  by_cases h1 : there = many
  · subst h1
    have HE := hid (Pge.mk_all (many := there) (s := S.data.toList))
    have HM := hid (bools_made there h64)
    have HLT := hid hlt0
    clear hB hs h64 hth hlt0
    go_enter Tryz.func54, Tryz.ntmps54
    have hm := HM.out
    go_wp2
    clear hm
    go_loopw [9, 20] (fun _ c wr => ∃ i : Nat, i ≤ there ∧ c = .int .i64 i ∧ Hid (Blk wr w.heap.size 4 (Pge.trow there i).toArray) ∧ Hid (Ext w wr)) (fun _ c _ => there - (intOf c).toNat)
    case atStart => exact ⟨0, Nat.zero_le _, rfl, hid (Blk.new w _ _), hid ((ext_refl w).new _)⟩
    case round =>
      obtain ⟨i, hi, rfl, HBK, HX⟩ := hrel
      by_cases hlt : i < there
      · have hcell := HBK.out.cell i
        rw [List.getElem?_toArray, Pge.trow_get there i hlt] at hcell
        have hfz := HBK.out.frozen i
        have HT := hid (Pge.trow_set there i hlt)
        have hltI : (i : Int) < (there : Int) := by omega
        have HLTT := hid hlt
        have HX1 := hid (HX.out.put (p := ⟨w.heap.size, i, none⟩) (Nat.le_refl _) (.bool true))
        have HB1 := hid ((HBK.out.set i (.bool true)).cast HT.out)
        clear hi hlt hc0 hf0
        go_wp2
        go_roundw
        case rel => exact ⟨i + 1, HLTT.out, by go_num, HB1, HX1⟩
        case measure => simp [intOf]; have := HLTT.out; omega
      · obtain rfl : i = there := by omega
        clear hlt hi hc0 hf0
        go_wp2
        go_returns
        refine ⟨_, _, _, by rw [HE.out]; rfl, (but_refl g w).ext HX.out, fun _ => ?_⟩
        rw [HE.out]
        refine ⟨by simp, ?_, ?_⟩
        · have := HBK.out.rd
          rw [Pge.trow_all] at this
          exact this
        · exact HB.out.keep HX.out
  · have h1I : ((there : Int) == (many : Int)) = false := by rw [beq_eq_false_iff_ne]; omega
    obtain ⟨z, hz⟩ : ∃ z, Bits.size many 1 = z := ⟨_, rfl⟩
    have hz1 : z = (many + 7) / 8 := by rw [← hz]; unfold Bits.size; rw [Nat.mul_one]
    have hz9 : z ≤ 8 := by omega
    have hzI : (z : Int) ≤ 8 := by omega
    have hz0 : (0 : Int) ≤ (z : Int) := by omega
    have hd1 : ((many : Int) + 7) / 8 = (z : Int) := by omega
    have hd2 : ((many : Int) + 7).tdiv 8 = (z : Int) := by rw [Int.tdiv_eq_ediv_of_nonneg (by omega)]; exact hd1
    have hwz : IntKind.i64.wrap (z : Int) = (z : Int) := by rw [IntKind.wrap_i64]; omega
    have hsI : (S.size : Int) ≤ 281474976710656 := by omega
    by_cases h2 : S.data.toList.length < z
    · have HE := hid (Pge.mk_none h1 hz h2)
      rw [Array.length_toList] at h2
      have h2I : (S.size : Int) < (z : Int) := by have : S.data.size = S.size := rfl; omega
      clear hB hs h64 hth hlt0 h1 hz hz1 hz9 h2
      go_enter Tryz.func54, Tryz.ntmps54
      go_wp2
      go_returns
      exact ⟨none, 0, 0, by rw [HE.out]; rfl, but_refl g w, fun h => absurd h (by rw [HE.out]; decide)⟩
    · have h2' := h2
      rw [Array.length_toList] at h2'
      have hsz : S.data.size = S.size := rfl
      have h2I : ¬ (S.size : Int) < (z : Int) := by omega
      have hto := fun wx : World => run_to (P := Tryz.prog) (w := wx) Tryz.underlying9 S .i64 z (by omega)
      have hfr := fun wx : World => run_from (P := Tryz.prog) (w := wx) Tryz.underlying9 S .i64 z (by omega)
      obtain ⟨P, hP⟩ : ∃ P : ByteArray, P = ⟨(S.data.toList.take z).toArray⟩ := ⟨_, rfl⟩
      obtain ⟨Q, hQ⟩ : ∃ Q : ByteArray, Q = ⟨(S.data.toList.drop z).toArray⟩ := ⟨_, rfl⟩
      rw [← hP] at hto
      rw [← hQ] at hfr
      have hPd : P.data.toList = S.data.toList.take z := by rw [hP]
      have HO := hid (fun wx => of_any P many wx)
      rw [hPd] at HO
      have m2 := fun h => Pge.mk_chk h1 hz h2 h
      have m3 := fun h => Pge.mk_form h1 hz h2 h
      have m4 := fun h => Pge.mk_ok h1 hz h2 h
      have hlen : (Bits.up (S.data.toList.take z) many 1).length = (Mrk.marks (Bits.up (S.data.toList.take z) many 1)).length := by rw [Mrk.marks_len]
      rw [hlen] at HO
      have hul : (Mrk.marks (Bits.up (S.data.toList.take z) many 1)).length ≤ 64 := by
        rw [Mrk.marks_len]
        by_cases hb : Bits.chk (S.data.toList.take z) many 1 = 0
        · have := Bits.up_ok (S.data.toList.take z) many 1 (by exact hb)
          rw [this, Bits.unp_len, Int.toNat_natCast]; exact h64
        · rw [Bits.up_bad _ _ _ hb]; simp
      obtain ⟨M, hM⟩ : ∃ M, M = Mrk.marks (Bits.up (S.data.toList.take z) many 1) := ⟨_, rfl⟩
      obtain ⟨ck, hck⟩ : ∃ ck, ck = Bits.chk (S.data.toList.take z) many 1 := ⟨_, rfl⟩
      simp only [← hM, ← hck] at HO m2 m3 m4 hul
      obtain ⟨R, hR⟩ : ∃ R, R = Pge.mk many there S.data.toList := ⟨_, rfl⟩
      rw [← hR] at m2 m3 m4 ⊢
      have HML := hid hul
      have hck7 : (ck : Int) ≤ 7 := by
        have := Bits.chk_cases (S.data.toList.take z) many 1
        rw [← hck] at this
        omega
      by_cases h3 : ck = 0
      · subst h3
        have HCT := hid (fun wx (A : Option Addr) (c : Nat) (h : Rd wx A (bls M)) => count_any M A M.length c wx rfl h (by have := HML.out; omega))
        obtain ⟨q, hq⟩ : ∃ q, q = M.count true := ⟨_, rfl⟩
        rw [← hq] at HCT
        have hqM : q ≤ M.length := by rw [hq]; exact List.count_le_length
        have hqI : (q : Int) ≤ 64 := by omega
        by_cases h4 : q = there
        · have HE := hid (m4 rfl (by rw [← hq]; exact h4))
          have h4I : ((q : Int) != (there : Int)) = false := by rw [h4]; simp
          have HQ := hid hQ
          clear hB hs h64 hth h1 hz hz1 hz9 h2 h2' hsz hP hQ hPd m2 m3 m4 hlen hul hM hck hR hq hqM h4
          go_enter Tryz.func54, Tryz.ntmps54
          go_wp2_with fail
          refine Calls.mono (HO.out _) ?_
          rintro e w1 ⟨B, c, rfl, hrd, hx⟩
          have B1 := hid (HB.out.keep hx)
          have X1 := hid hx
          have R2 := hid (Rd.away hrd (HB.out.keep hx) (.string Q))
          have B2 := hid (((HB.out.keep hx).set 0 (.string Q)).cast (cs' := #[.string Q]) rfl)
          have X2 := hid (((but_refl g w).ext hx).put ⟨g, 0, none⟩ (.inl rfl) (.string Q))
          have hc1 := B1.out.cell 0
          have hf1 := B1.out.frozen 0
          clear hrd hx hc0 hf0
          go_wp2_with fail
          refine Calls.mono (HCT.out _ _ _ R2.out) ?_
          rintro e w3 ⟨rfl, hx⟩
          have X3 := hid (X2.out.ext hx)
          have R3 := hid (R2.out.keep hx)
          have B3 := hid (B2.out.keep hx)
          clear hx
          go_wp2
          go_returns
          exact ⟨_, _, _, by rw [HE.out]; rfl, X3.out, fun _ => by rw [HE.out]; exact ⟨rfl, R3.out, by have := B3.out; rw [HQ.out] at this; exact this⟩⟩
        · have HE := hid (m3 rfl (by rw [← hq]; exact h4))
          have h4I : ((q : Int) != (there : Int)) = true := by rw [bne_iff_ne]; omega
          have h4J : ((q : Int) == (there : Int)) = false := by rw [beq_eq_false_iff_ne]; omega
          clear hB hs h64 hth h1 hz hz1 hz9 h2 h2' hsz hP hQ hPd m2 m3 m4 hlen hul hM hck hR hq hqM h4
          go_enter Tryz.func54, Tryz.ntmps54
          go_wp2_with fail
          refine Calls.mono (HO.out _) ?_
          rintro e w1 ⟨B, c, rfl, hrd, hx⟩
          have B1 := hid (HB.out.keep hx)
          have R2 := hid (Rd.away hrd (HB.out.keep hx) (.string Q))
          have X2 := hid (((but_refl g w).ext hx).put ⟨g, 0, none⟩ (.inl rfl) (.string Q))
          have hc1 := B1.out.cell 0
          have hf1 := B1.out.frozen 0
          clear hrd hx hc0 hf0
          go_wp2_with fail
          refine Calls.mono (HCT.out _ _ _ R2.out) ?_
          rintro e w3 ⟨rfl, hx⟩
          have X3 := hid (X2.out.ext hx)
          clear hx
          go_wp2
          go_returns
          exact ⟨_, _, _, by rw [HE.out]; rfl, X3.out, fun h => absurd h (by rw [HE.out]; decide)⟩
      · have HE := hid (m2 h3)
        have h3I : ((ck : Int) != 0) = true := by rw [bne_iff_ne]; omega
        have h3J : ((ck : Int) == 0) = false := by rw [beq_eq_false_iff_ne]; omega
        have H3 := hid h3
        clear hB hs h64 hth h1 hz hz1 hz9 h2 h2' hsz hP hQ hPd m2 m3 m4 hlen hul hM hck hR h3
        go_enter Tryz.func54, Tryz.ntmps54
        go_wp2_with fail
        refine Calls.mono (HO.out _) ?_
        rintro e w1 ⟨B, c, rfl, hrd, hx⟩
        have B1 := hid (HB.out.keep hx)
        have X2 := hid (((but_refl g w).ext hx).put ⟨g, 0, none⟩ (.inl rfl) (.string Q))
        have hc1 := B1.out.cell 0
        have hf1 := B1.out.frozen 0
        clear hrd hx hc0 hf0
        go_wp2
        go_returns
        exact ⟨_, _, _, by rw [HE.out]; rfl, X2.out, fun h => absurd h (by rw [HE.out]; exact H3.out)⟩
end Go.Proofs.YthgnipangcmanaaGreat
end
section
namespace Hy.Cod
open Go
theorem byte_u8 (wb : Nat) (h : wb ≤ 255) : (#[Value.int .u8 (wb : Int)] : Array Value).toList = u8s [UInt8.ofNat wb] := by simp [u8s]; omega
theorem tg_str (f : Nat → Tx) (k : Nat) (s : ByteArray) (h : s = ⟨(f k).toArray⟩) : (⟨(UInt8.ofNat k :: s.data.toList).toArray⟩ : ByteArray) = ⟨(tg f k).toArray⟩ := by subst h; rfl
end Hy.Cod
namespace Go.Proofs.YthgnipangcmanaaGreat
open Go.RowKit Hy
set_option maxRecDepth 100000 in
set_option maxHeartbeats 1600000 in
theorem wideB_any (l : List Nat) (A : Option Addr) (n cap : Nat) (w : World) (hn : l.length = n) (hr : Rd w A (u64s l)) (hl : ∀ x ∈ l, x < 18446744073709551616) (hnl : n ≤ 64) :
    Calls Tryz.prog 100 #[.slice A n cap, .func (.func 69) #[] #[]] w fun e w' => e = .returned (.string ⟨(UInt8.ofNat (Bits.width l) :: Bits.packed l (Bits.width l)).toArray⟩) ∧ Ext w w' := by
  have HW := hid (width_any l A n cap w hn hr hl (by omega))
  obtain ⟨h64, hfit⟩ := Cod.width_fit l hl
  have hlen : (Bits.packed l (Bits.width l)).length ≤ 600 := by rw [Bits.packed_len]; have := Cod.size_b l.length _ (by omega) h64; omega
  have HRW := hid (fun wx (hx : Ext w wx) => braw_any l A n cap (Bits.width l) wx hn (hr.keep hx) hfit hnl h64)
  obtain ⟨wb, hwb⟩ : ∃ wb, wb = Bits.width l := ⟨_, rfl⟩
  rw [← hwb] at HW h64 HRW hlen ⊢
  obtain ⟨X2b, hX2b⟩ : ∃ S : ByteArray, S = ⟨[UInt8.ofNat wb].toArray⟩ := ⟨_, rfl⟩
  obtain ⟨X3b, hX3b⟩ : ∃ S : ByteArray, S = ⟨(Bits.packed l wb).toArray⟩ := ⟨_, rfl⟩
  have hz2 : X2b.size = 1 := by rw [hX2b]; rfl
  have hz3 : X3b.size ≤ 600 := by rw [hX3b, str_size]; exact hlen
  have HVV := hid (show X2b ++ X3b = ⟨(UInt8.ofNat wb :: Bits.packed l wb).toArray⟩ by rw [hX2b, hX3b, str_app]; rfl)
  have HBB := hid hX2b
  rw [← hX3b] at HRW
  have HWB := hid (Cod.byte_u8 wb (by omega))
  have hwI : (wb : Int) ≤ 64 := by omega
  have hwu : IntKind.u8.wrap (wb : Int) = (wb : Int) := by rw [IntKind.wrap_u8]; omega
  clear hn hl hfit hlen hwb hX2b hX3b hr
  go_enter Tryz.func100, Tryz.ntmps100
  go_wp2_with fail
  refine Calls.mono HW.out ?_
  rintro e _ ⟨rfl, rfl⟩
  go_wp2
  refine wp_region_tree (.one 0 true (.one 1 true (.one 4 true (.one 5 true (.one 6 true (.two 2 7 (.two 3 7 (.one 7 false (.one 8 true (.one 9 true (.nil)))) (.one 3 false (.one 8 true (.one 9 true (.nil))))) (.one 2 false (.one 3 false (.one 8 true (.one 9 true (.nil))))))))))) (by kernel_rfl) (by kernel_rfl) (fun _ _ _ _ _ h => h) (by kernel_rfl) (by rfl) ?_
  simp only [fillT, List.getD_cons_zero, List.getD_cons_succ]
  have Y0 : Ext w w.drew := (ext_refl w).draw
  generalize w.drew = y0 at Y0 ⊢
  repeat (refine wpTO_val (by rfl) ?_; intro K hK; go_big_quiet_op; go_big_quiet_on)
  refine wpTO_two ?_ ?_
  · refine wpTO_do (by rfl) ?_
    intro K hK
    go_simp
    have HRB := rd_lit (w := y0) (g := (y0 : World).heap.size) (C := #[.int .u8 (wb : Int)]) (e := 5) (fz := (0, 0)) (cs := u8s [UInt8.ofNat wb]) rfl HWB.out
    have Y1 := Ext.new Y0 (.cells #[.int .u8 (wb : Int)] 5)
    refine hK _ _ Y1 ?_
    clear K hK
    refine wpTO_two ?_ ?_
    · refine wpTO_do (by rfl) ?_
      intro K hK
      have hcv := run_str_rd (P := Tryz.prog) (src := 42) (dst := 9) (e := 5) Tryz.underlying42 Tryz.underlying5 Tryz.underlying9 _ 1 1 [UInt8.ofNat wb] rfl HRB (fun h => by cases h)
      rw [← HBB.out] at hcv
      go_simp
      refine hK _ _ Y1 ?_
      clear K hK hcv
      refine wpTO_do (by rfl) ?_
      intro K hK
      go_simp
      refine Calls.mono (HRW.out _ Y1) ?_
      rintro e y2 ⟨rfl, hx⟩
      have Y2 := Ext.then Y1 hx
      replace HRB := Rd.keep HRB hx
      refine hK _ _ Y2 ?_
      clear K hK hx
      repeat (refine wpTO_val (by rfl) ?_; intro K hK; go_big_quiet_op; go_big_quiet_on)
      refine wpTO_nil ?_
      have XE := hid Y2
      go_wp2
      go_returns
      exact ⟨by rw [← HVV.out]; rfl, XE.out⟩
    · refine wpTO_do (by rfl) ?_
      intro K hK
      go_simp
      refine Calls.mono (HRW.out _ Y1) ?_
      rintro e y3 ⟨rfl, hx⟩
      have Y3 := Ext.then Y1 hx
      replace HRB := Rd.keep HRB hx
      refine hK _ _ Y3 ?_
      clear K hK hx
      refine wpTO_do (by rfl) ?_
      intro K hK
      have hcv := run_str_rd (P := Tryz.prog) (src := 42) (dst := 9) (e := 5) Tryz.underlying42 Tryz.underlying5 Tryz.underlying9 _ 1 1 [UInt8.ofNat wb] rfl HRB (fun h => by cases h)
      rw [← HBB.out] at hcv
      go_simp
      refine hK _ _ Y3 ?_
      clear K hK hcv
      repeat (refine wpTO_val (by rfl) ?_; intro K hK; go_big_quiet_op; go_big_quiet_on)
      refine wpTO_nil ?_
      have XE := hid Y3
      go_wp2
      go_returns
      exact ⟨by rw [← HVV.out]; rfl, XE.out⟩
  · refine wpTO_do (by rfl) ?_
    intro K hK
    go_simp
    refine Calls.mono (HRW.out _ Y0) ?_
    rintro e y4 ⟨rfl, hx⟩
    have Y4 := Ext.then Y0 hx
    refine hK _ _ Y4 ?_
    clear K hK hx
    refine wpTO_do (by rfl) ?_
    intro K hK
    go_simp
    have HRB := rd_lit (w := y4) (g := (y4 : World).heap.size) (C := #[.int .u8 (wb : Int)]) (e := 5) (fz := (0, 0)) (cs := u8s [UInt8.ofNat wb]) rfl HWB.out
    have Y5 := Ext.new Y4 (.cells #[.int .u8 (wb : Int)] 5)
    refine hK _ _ Y5 ?_
    clear K hK
    refine wpTO_do (by rfl) ?_
    intro K hK
    have hcv := run_str_rd (P := Tryz.prog) (src := 42) (dst := 9) (e := 5) Tryz.underlying42 Tryz.underlying5 Tryz.underlying9 _ 1 1 [UInt8.ofNat wb] rfl HRB (fun h => by cases h)
    rw [← HBB.out] at hcv
    go_simp
    refine hK _ _ Y5 ?_
    clear K hK hcv
    repeat (refine wpTO_val (by rfl) ?_; intro K hK; go_big_quiet_op; go_big_quiet_on)
    refine wpTO_nil ?_
    have XE := hid Y5
    go_wp2
    go_returns
    exact ⟨by rw [← HVV.out]; rfl, XE.out⟩
set_option maxRecDepth 100000 in
set_option maxHeartbeats 1600000 in
theorem wideH_any (l : List Nat) (A : Option Addr) (n cap : Nat) (w : World) (hn : l.length = n) (hr : Rd w A (u64s l)) (hl : ∀ x ∈ l, x < 18446744073709551616) (hnl : n ≤ 64) (hcap : n ≤ cap) :
    Calls Tryz.prog 100 #[.slice A n cap, .func (.func 101) #[] #[]] w fun e w' => e = .returned (.string ⟨(UInt8.ofNat (Bits.width l) :: Hyb.raw l (Bits.width l)).toArray⟩) ∧ Ext w w' := by
  have HW := hid (width_any l A n cap w hn hr hl (by omega))
  obtain ⟨h64, hfit⟩ := Cod.width_fit l hl
  have hlen : (Hyb.raw l (Bits.width l)).length ≤ 600 := by exact Cod.raw_b l _ h64 (by omega)
  have HRW := hid (fun wx (hx : Ext w wx) => hyRaw_any l A n cap (Bits.width l) wx hn (hr.keep hx) hcap hnl hfit h64)
  obtain ⟨wb, hwb⟩ : ∃ wb, wb = Bits.width l := ⟨_, rfl⟩
  rw [← hwb] at HW h64 HRW hlen ⊢
  obtain ⟨X2b, hX2b⟩ : ∃ S : ByteArray, S = ⟨[UInt8.ofNat wb].toArray⟩ := ⟨_, rfl⟩
  obtain ⟨X3b, hX3b⟩ : ∃ S : ByteArray, S = ⟨(Hyb.raw l wb).toArray⟩ := ⟨_, rfl⟩
  have hz2 : X2b.size = 1 := by rw [hX2b]; rfl
  have hz3 : X3b.size ≤ 600 := by rw [hX3b, str_size]; exact hlen
  have HVV := hid (show X2b ++ X3b = ⟨(UInt8.ofNat wb :: Hyb.raw l wb).toArray⟩ by rw [hX2b, hX3b, str_app]; rfl)
  have HBB := hid hX2b
  rw [← hX3b] at HRW
  have HWB := hid (Cod.byte_u8 wb (by omega))
  have hwI : (wb : Int) ≤ 64 := by omega
  have hwu : IntKind.u8.wrap (wb : Int) = (wb : Int) := by rw [IntKind.wrap_u8]; omega
  clear hn hl hfit hlen hwb hX2b hX3b hr
  go_enter Tryz.func100, Tryz.ntmps100
  go_wp2_with fail
  refine Calls.mono HW.out ?_
  rintro e _ ⟨rfl, rfl⟩
  go_wp2
  refine wp_region_tree (.one 0 true (.one 1 true (.one 4 true (.one 5 true (.one 6 true (.two 2 7 (.two 3 7 (.one 7 false (.one 8 true (.one 9 true (.nil)))) (.one 3 false (.one 8 true (.one 9 true (.nil))))) (.one 2 false (.one 3 false (.one 8 true (.one 9 true (.nil))))))))))) (by kernel_rfl) (by kernel_rfl) (fun _ _ _ _ _ h => h) (by kernel_rfl) (by rfl) ?_
  simp only [fillT, List.getD_cons_zero, List.getD_cons_succ]
  have Y0 : Ext w w.drew := (ext_refl w).draw
  generalize w.drew = y0 at Y0 ⊢
  repeat (refine wpTO_val (by rfl) ?_; intro K hK; go_big_quiet_op; go_big_quiet_on)
  refine wpTO_two ?_ ?_
  · refine wpTO_do (by rfl) ?_
    intro K hK
    go_simp
    have HRB := rd_lit (w := y0) (g := (y0 : World).heap.size) (C := #[.int .u8 (wb : Int)]) (e := 5) (fz := (0, 0)) (cs := u8s [UInt8.ofNat wb]) rfl HWB.out
    have Y1 := Ext.new Y0 (.cells #[.int .u8 (wb : Int)] 5)
    refine hK _ _ Y1 ?_
    clear K hK
    refine wpTO_two ?_ ?_
    · refine wpTO_do (by rfl) ?_
      intro K hK
      have hcv := run_str_rd (P := Tryz.prog) (src := 42) (dst := 9) (e := 5) Tryz.underlying42 Tryz.underlying5 Tryz.underlying9 _ 1 1 [UInt8.ofNat wb] rfl HRB (fun h => by cases h)
      rw [← HBB.out] at hcv
      go_simp
      refine hK _ _ Y1 ?_
      clear K hK hcv
      refine wpTO_do (by rfl) ?_
      intro K hK
      go_simp
      refine Calls.mono (HRW.out _ Y1) ?_
      rintro e y2 ⟨rfl, hx⟩
      have Y2 := Ext.then Y1 hx
      replace HRB := Rd.keep HRB hx
      refine hK _ _ Y2 ?_
      clear K hK hx
      repeat (refine wpTO_val (by rfl) ?_; intro K hK; go_big_quiet_op; go_big_quiet_on)
      refine wpTO_nil ?_
      have XE := hid Y2
      go_wp2
      go_returns
      exact ⟨by rw [← HVV.out]; rfl, XE.out⟩
    · refine wpTO_do (by rfl) ?_
      intro K hK
      go_simp
      refine Calls.mono (HRW.out _ Y1) ?_
      rintro e y3 ⟨rfl, hx⟩
      have Y3 := Ext.then Y1 hx
      replace HRB := Rd.keep HRB hx
      refine hK _ _ Y3 ?_
      clear K hK hx
      refine wpTO_do (by rfl) ?_
      intro K hK
      have hcv := run_str_rd (P := Tryz.prog) (src := 42) (dst := 9) (e := 5) Tryz.underlying42 Tryz.underlying5 Tryz.underlying9 _ 1 1 [UInt8.ofNat wb] rfl HRB (fun h => by cases h)
      rw [← HBB.out] at hcv
      go_simp
      refine hK _ _ Y3 ?_
      clear K hK hcv
      repeat (refine wpTO_val (by rfl) ?_; intro K hK; go_big_quiet_op; go_big_quiet_on)
      refine wpTO_nil ?_
      have XE := hid Y3
      go_wp2
      go_returns
      exact ⟨by rw [← HVV.out]; rfl, XE.out⟩
  · refine wpTO_do (by rfl) ?_
    intro K hK
    go_simp
    refine Calls.mono (HRW.out _ Y0) ?_
    rintro e y4 ⟨rfl, hx⟩
    have Y4 := Ext.then Y0 hx
    refine hK _ _ Y4 ?_
    clear K hK hx
    refine wpTO_do (by rfl) ?_
    intro K hK
    go_simp
    have HRB := rd_lit (w := y4) (g := (y4 : World).heap.size) (C := #[.int .u8 (wb : Int)]) (e := 5) (fz := (0, 0)) (cs := u8s [UInt8.ofNat wb]) rfl HWB.out
    have Y5 := Ext.new Y4 (.cells #[.int .u8 (wb : Int)] 5)
    refine hK _ _ Y5 ?_
    clear K hK
    refine wpTO_do (by rfl) ?_
    intro K hK
    have hcv := run_str_rd (P := Tryz.prog) (src := 42) (dst := 9) (e := 5) Tryz.underlying42 Tryz.underlying5 Tryz.underlying9 _ 1 1 [UInt8.ofNat wb] rfl HRB (fun h => by cases h)
    rw [← HBB.out] at hcv
    go_simp
    refine hK _ _ Y5 ?_
    clear K hK hcv
    repeat (refine wpTO_val (by rfl) ?_; intro K hK; go_big_quiet_op; go_big_quiet_on)
    refine wpTO_nil ?_
    have XE := hid Y5
    go_wp2
    go_returns
    exact ⟨by rw [← HVV.out]; rfl, XE.out⟩
theorem tagged_any (k : Nat) (s : ByteArray) (w : World) (hk : k < 256) (hs : s.size ≤ 3000) :
    Calls Tryz.prog 99 #[.int .i64 k, .string s] w fun e w' => e = .returned (.string ⟨(UInt8.ofNat k :: s.data.toList).toArray⟩) ∧ Ext w w' := by
  have hst := run_str1 (P := Tryz.prog) Tryz.underlying42 Tryz.underlying5 Tryz.underlying9 k hk w
  have hv : (⟨#[UInt8.ofNat k]⟩ : ByteArray) ++ s = ⟨(UInt8.ofNat k :: s.data.toList).toArray⟩ := by
    conv => lhs; rhs; rw [← str_self s]
    rw [str_cons]
  have HV := hid hv
  have hz : (⟨#[UInt8.ofNat k]⟩ : ByteArray).size = 1 := rfl
  generalize (⟨#[UInt8.ofNat k]⟩ : ByteArray) = B at *
  have hkI : (k : Int) < 256 := by omega
  clear hk hv
  go_enter Tryz.func99, Tryz.ntmps99
  go_wp2
  go_returns
  exact ⟨by rw [← HV.out]; rfl, (ext_refl _).new _⟩
theorem lastWidth_any (n : Nat) (w : World) (hn : n ≤ 65) :
    Calls Tryz.prog 107 #[.int .i64 n] w fun e w' => e = .returned (.int .i64 (Cod.lw n : Nat)) ∧ Ext w w' := by
  cases n with
  | zero =>
    rw [Cod.lw_zero]
    go_enter Tryz.func107, Tryz.ntmps107
    go_wp2
    go_returns
    exact ⟨rfl, ext_refl _⟩
  | succ m =>
    rw [Cod.lw_width (by omega), Nat.add_sub_cancel]
    have hm : ((m + 1 : Nat) : Int) - 1 = (m : Int) := by omega
    have hmI : (m : Int) ≤ 64 := by omega
    have hz : (((m + 1 : Nat) : Int) == 0) = false := by rw [beq_eq_false_iff_ne]; omega
    have hwu : IntKind.u64.wrap (m : Int) = (m : Int) := by rw [IntKind.wrap_u64]; omega
    have HW := hid (fun A wx (h : Rd wx A (u64s [m])) => width_any [m] A 1 1 wx rfl h (by intro x hx; rw [List.mem_singleton] at hx; omega) (by decide))
    have hrd := rd_lit (w := w) (g := w.heap.size) (C := #[.int .u64 (m : Int)]) (e := 34) (fz := (0, 0)) (cs := u64s [m]) rfl rfl
    have HRD := hid hrd
    clear hn hrd
    generalize ((m + 1 : Nat) : Int) = q at *

    go_enter Tryz.func107, Tryz.ntmps107
    go_wp2_with fail
    refine Calls.mono (HW.out _ _ HRD.out) ?_
    rintro e _ ⟨rfl, rfl⟩
    go_wp2
    go_returns
    exact ⟨rfl, (ext_refl _).new _⟩
theorem isNumbers_any (k : Int) (w : World) :
    Calls Tryz.prog 117 #[.int .i64 k] w fun e w' => e = .returned (.bool (decide (1 ≤ k ∧ k ≤ 4))) ∧ w = w' := by
  go_enter Tryz.func117, Tryz.ntmps117
  go_wp2
  all_goals go_returns
  all_goals exact ⟨ret_bool (by simp at *; try omega), rfl⟩
theorem isTexts_any (k : Int) (w : World) :
    Calls Tryz.prog 122 #[.int .i64 k] w fun e w' => e = .returned (.bool (decide (5 ≤ k ∧ k ≤ 7))) ∧ w = w' := by
  go_enter Tryz.func122, Tryz.ntmps122
  go_wp2
  all_goals go_returns
  all_goals exact ⟨ret_bool (by simp at *; try omega), rfl⟩
theorem numbers_any (l : List Nat) (A : Option Addr) (n cap k : Nat) (w : World) (hn : l.length = n) (hr : Rd w A (u64s l)) (hcap : n ≤ cap) (hl : ∀ x ∈ l, x < 18446744073709551616) (hnl : n ≤ 64) (h1 : 1 ≤ k) (h4 : k ≤ 4) :
    Calls Tryz.prog 71 #[.slice A n cap, .int .i64 k] w fun e w' => e = .returned (.string ⟨(Cod.nm l k).toArray⟩) ∧ Ext w w' := by
  have H1 := hid (wideB_any l A n cap w hn hr hl hnl)
  have H2 := hid (wideH_any l A n cap w hn hr hl hnl hcap)
  have H3 := hid (dWrite_any l A n cap w hn hr hcap hl (by omega))
  have H4 := hid (pWrite_any l A n cap w hn hr hl (by omega))
  have hd : Dlt.wrt l = (Dlt.bys l, 0) := by unfold Dlt.wrt; rw [if_neg (by omega)]
  have hp : Pat.wrt l = (Pat.bys l, 0) := by unfold Pat.wrt; rw [if_neg (by omega)]
  rw [hd] at H3
  rw [hp] at H4
  rw [← Cod.nm1] at H1
  rw [← Cod.nm2] at H2
  simp only [← Cod.nm3] at H3
  simp only [← Cod.nm4] at H4
  clear hn hr hcap hl hnl hd hp
  obtain rfl | rfl | rfl | rfl : k = 1 ∨ k = 2 ∨ k = 3 ∨ k = 4 := by omega
  all_goals
    clear h1 h4
    go_enter Tryz.func71, Tryz.ntmps71
    go_wp2_with fail
  · refine Calls.mono H1.out ?_
    rintro e w1 ⟨rfl, hx⟩
    go_wp2
    go_returns
    exact ⟨rfl, hx⟩
  · refine Calls.mono H2.out ?_
    rintro e w1 ⟨rfl, hx⟩
    go_wp2
    go_returns
    exact ⟨rfl, hx⟩
  · refine Calls.mono H3.out ?_
    rintro e w1 ⟨rfl, hx⟩
    go_wp2
    go_returns
    exact ⟨rfl, hx⟩
  · refine Calls.mono H4.out ?_
    rintro e w1 ⟨rfl, hx⟩
    go_wp2
    go_returns
    exact ⟨rfl, hx⟩
set_option maxHeartbeats 800000 in
theorem bestN_any (l : List Nat) (A : Option Addr) (n cap : Nat) (w : World) (hn : l.length = n) (hr : Rd w A (u64s l)) (hcap : n ≤ cap) (hl : ∀ x ∈ l, x < 18446744073709551616) (hnl : n ≤ 64) :
    Calls Tryz.prog 70 #[.slice A n cap, .int .i64 1, .int .i64 4, .func (.func 71) #[] #[]] w fun e w' => e = .returned (.string ⟨(Cod.up (Cod.nm l) 1 3).toArray⟩) ∧ Ext w w' := by
  have HC := hid (fun (k : Nat) (h1 : 1 ≤ k) (h4 : k ≤ 4) wx (hx : Ext w wx) => numbers_any l A n cap k wx hn (hr.keep hx) hcap hl hnl h1 h4)
  have HLN := hid (fun k => Cod.nm_len l k (by omega) hl)
  have HT := hid (fun (k : Nat) (hk : k ≤ 4) wx => tagged_any k ⟨(Cod.nm l k).toArray⟩ wx (by omega) (by rw [str_size]; have := HLN.out k; omega))
  have HUP := hid (fun j => Cod.up_len (Cod.nm l) 1 j 2000 HLN.out)
  have HS0 := hid (Cod.up_zero (Cod.nm l) 1)
  have HSS := hid (fun j => Cod.up_succ (Cod.nm l) 1 j)
  have HTG := hid (fun k => Cod.tg_str (Cod.nm l) k ⟨(Cod.nm l k).toArray⟩ rfl)
  have HTL := hid (fun k => Cod.tg_len (Cod.nm l) k)
  generalize Cod.nm l = f at *
  clear hn hr hcap hl hnl
  go_enter Tryz.func70, Tryz.ntmps70
  go_wp2_with fail
  refine Calls.mono (HC.out 1 (by decide) (by decide) _ (ext_refl _)) ?_
  rintro e w1 ⟨rfl, hx⟩
  have X1 := hid hx
  clear hx
  go_wp2_with fail
  refine Calls.mono (HT.out 1 (by decide) _) ?_
  rintro e w2 ⟨rfl, hx⟩
  have X2 := hid (X1.out.then hx)
  clear hx
  rw [HTG.out, ← HS0.out]
  go_wp2
  go_loopw [9, 10, 11] (fun v c _ wr => ∃ j : Nat, j ≤ 3 ∧ c = .int .i64 ((j : Int) + 2) ∧ v = .string ⟨(Cod.up f 1 j).toArray⟩ ∧ Hid (Ext w wr)) (fun _ c _ _ => 4 + 1 - (intOf c).toNat)
  case atStart => exact ⟨0, Nat.zero_le _, rfl, rfl, X2⟩
  case round =>
    obtain ⟨j, hj, rfl, rfl, HX⟩ := hrel
    by_cases hlt : j < 3
    · have hc1 : (j : Int) + 2 = ((1 + j + 1 : Nat) : Int) := by omega
      have hjI : ((1 + j + 1 : Nat) : Int) ≤ 4 := by omega
      have C1 := hid (HC.out (1 + j + 1) (by omega) (by omega))
      have C2 := hid (HT.out (1 + j + 1) (by omega))
      have G2 := hid (HTG.out (1 + j + 1))
      have U1 := hid (HSS.out j)
      have l1 := HUP.out j
      have l2 := HLN.out (1 + j + 1)
      have l3 := HTL.out (1 + j + 1)
      have hn1 : ((1 + j + 1 : Nat) : Int) + 1 = ((j + 1 : Nat) : Int) + 2 := by omega
      rw [hc1]
      obtain ⟨S, hS⟩ : ∃ S : ByteArray, S = ⟨(f (1 + j + 1)).toArray⟩ := ⟨_, rfl⟩
      obtain ⟨G, hG⟩ : ∃ S : ByteArray, S = ⟨(Cod.tg f (1 + j + 1)).toArray⟩ := ⟨_, rfl⟩
      obtain ⟨U, hU⟩ : ∃ S : ByteArray, S = ⟨(Cod.up f 1 j).toArray⟩ := ⟨_, rfl⟩
      have HGU := hid hG
      have HUU := hid hU
      have g1 : G.size = (Cod.tg f (1 + j + 1)).length := by rw [hG, str_size]
      have g2 : U.size = (Cod.up f 1 j).length := by rw [hU, str_size]
      have g3 : G.size ≤ 2001 := by omega
      have g4 : U.size ≤ 2001 := by omega
      rw [← hS] at C1
      rw [← hS] at C2
      rw [← hG] at G2
      rw [← hU]
      rw [← g1, ← g2] at U1
      have hwr : IntKind.i64.wrap (((1 + j + 1 : Nat) : Int) + 1) = ((1 + j + 1 : Nat) : Int) + 1 := by rw [IntKind.wrap_i64]; omega
      have HJ := hid (show j + 1 ≤ 3 by omega)
      have HN1 := hid hn1
      clear hS hG hU g1 g2 l1 l2 l3 hc1 hn1 hj
      generalize ((1 + j + 1 : Nat) : Int) = q at *
      by_cases hs : G.size < U.size
      · have hsI : (G.size : Int) < (U.size : Int) := by omega
        rw [if_pos hs] at U1
        clear hs
        go_wp2_with fail
        refine Calls.mono (C1.out _ HX.out) ?_
        rintro e w3 ⟨rfl, hx⟩
        have X3 := hid (HX.out.then hx)
        clear hx
        go_wp2_with fail
        refine Calls.mono (C2.out _) ?_
        rintro e w4 ⟨rfl, hx⟩
        have X4 := hid (X3.out.then hx)
        clear hx
        rw [G2.out]
        go_wp2
        go_roundw
        case rel => exact ⟨j + 1, HJ.out, by rw [HN1.out], by rw [U1.out, ← HGU.out], X4⟩
        case measure => simp [intOf]; have := HN1.out; have := HJ.out; omega
      · have hsI : ¬ (G.size : Int) < (U.size : Int) := by omega
        rw [if_neg hs] at U1
        clear hs
        go_wp2_with fail
        refine Calls.mono (C1.out _ HX.out) ?_
        rintro e w3 ⟨rfl, hx⟩
        have X3 := hid (HX.out.then hx)
        clear hx
        go_wp2_with fail
        refine Calls.mono (C2.out _) ?_
        rintro e w4 ⟨rfl, hx⟩
        have X4 := hid (X3.out.then hx)
        clear hx
        rw [G2.out]
        go_wp2
        go_roundw
        case rel => exact ⟨j + 1, HJ.out, by rw [HN1.out], by rw [U1.out, ← HUU.out], X4⟩
        case measure => simp [intOf]; have := HN1.out; have := HJ.out; omega
    · obtain rfl : j = 3 := by omega
      have hne : ¬ (((3 : Nat) : Int) + 2 ≤ 4) := by decide
      clear hlt hj
      go_wp2
      go_returns
      exact ⟨rfl, HX.out⟩
theorem bestNumbers_any (l : List Nat) (A : Option Addr) (n cap : Nat) (w : World) (hn : l.length = n) (hr : Rd w A (u64s l)) (hcap : n ≤ cap) (hl : ∀ x ∈ l, x < 18446744073709551616) (hnl : n ≤ 9223372036854775806) :
    Calls Tryz.prog 45 #[.slice A n cap] w fun e w' => e = .returned (.tuple #[.string ⟨(Cod.bnm l).1.toArray⟩, .int .i64 ((Cod.bnm l).2 : Nat)]) ∧ Ext w w' := by
  unfold Cod.bnm
  rw [hn]
  by_cases h64 : 64 < n
  · rw [if_pos h64]
    have hI : (64 : Int) < (n : Int) := by omega
    clear hn hr hcap hl hnl h64
    go_enter Tryz.func45, Tryz.ntmps45
    go_wp2
    go_returns
    exact ⟨rfl, ext_refl _⟩
  · rw [if_neg h64]
    have HC := hid (bestN_any l A n cap w hn hr hcap hl (by omega))
    have hI : ¬ (64 : Int) < (n : Int) := by omega
    clear hn hr hcap hl hnl h64
    go_enter Tryz.func45, Tryz.ntmps45
    go_wp2_with fail
    refine Calls.mono HC.out ?_
    rintro e w1 ⟨rfl, hx⟩
    have X1 := hid hx
    clear hx
    go_wp2
    go_returns
    exact ⟨rfl, X1.out⟩
end Go.Proofs.YthgnipangcmanaaGreat
end
section
namespace Hy.Cod
open Go
theorem rpk_lt (many : Int) (t : Tx) (w : Nat) : (∀ x ∈ (rpk many t w).1, x < 18446744073709551616) ∧ (rpk many t w).1.length ≤ 64 := by
  show (∀ x ∈ Bits.up t many w, x < _) ∧ (Bits.up t many w).length ≤ 64
  by_cases h : Bits.chk t many w = 0
  · rw [Bits.up_ok _ _ _ h]
    obtain ⟨h1, h2, h3, h4, _⟩ := Bits.chk_ok h
    refine ⟨fun x hx => ?_, by rw [Bits.unp_len]; omega⟩
    have := Bits.unp_lt _ _ _ x hx
    have h5 : 2 ^ (w : Int).toNat ≤ 2 ^ 64 := Nat.pow_le_pow_right (by decide) (by omega)
    omega
  · rw [Bits.up_bad _ _ _ h]; simp
theorem rhy_lt (many : Int) (t : Tx) (w : Nat) : (∀ x ∈ (rhy many t w).1, x < 18446744073709551616) ∧ (rhy many t w).1.length ≤ 64 :=
  ⟨Hyb.rdl_lt t many w, Hyb.rdl_len t many w⟩
@[irreducible] def wy (lo hi : Nat) (s : Tx) (many : Int) : Nat × Tx × Nat :=
  if many < 0 then (0, [], 3) else if 64 < many then (0, [], 2) else match s with
  | [] => (0, [], 5)
  | c :: t => if lo ≤ c.toNat ∧ c.toNat ≤ hi then (c.toNat, t, 0) else (0, [], 7)
section
variable {lo hi : Nat} {s t : Tx} {c : UInt8} {many : Int}
theorem wy_neg (h : many < 0) : wy lo hi s many = (0, [], 3) := by unfold wy; rw [if_pos h]
theorem wy_many (h : 64 < many) : wy lo hi s many = (0, [], 2) := by unfold wy; rw [if_neg (by omega), if_pos h]
theorem wy_nil (h : 0 ≤ many) (h2 : many ≤ 64) : wy lo hi [] many = (0, [], 5) := by unfold wy; rw [if_neg (by omega), if_neg (by omega)]
theorem wy_ok (h : 0 ≤ many) (h2 : many ≤ 64) (h3 : lo ≤ c.toNat ∧ c.toNat ≤ hi) : wy lo hi (c :: t) many = (c.toNat, t, 0) := by unfold wy; rw [if_neg (by omega), if_neg (by omega)]; simp only; rw [if_pos h3]
theorem wy_kind (h : 0 ≤ many) (h2 : many ≤ 64) (h3 : ¬ (lo ≤ c.toNat ∧ c.toNat ≤ hi)) : wy lo hi (c :: t) many = (0, [], 7) := by unfold wy; rw [if_neg (by omega), if_neg (by omega)]; simp only; rw [if_neg h3]
theorem wy_cases (lo hi : Nat) (s : Tx) (many : Int) : (∃ e, wy lo hi s many = (0, [], e) ∧ 0 < e ∧ e ≤ 7) ∨ (∃ c t, s = c :: t ∧ wy lo hi s many = (c.toNat, t, 0) ∧ lo ≤ c.toNat ∧ c.toNat ≤ hi ∧ 0 ≤ many ∧ many ≤ 64) := by
  by_cases h1 : many < 0
  · exact .inl ⟨_, wy_neg h1, by decide, by decide⟩
  · by_cases h2 : 64 < many
    · exact .inl ⟨_, wy_many h2, by decide, by decide⟩
    · cases s with
      | nil => exact .inl ⟨_, wy_nil (by omega) (by omega), by decide, by decide⟩
      | cons c t =>
        by_cases h3 : lo ≤ c.toNat ∧ c.toNat ≤ hi
        · exact .inr ⟨c, t, rfl, wy_ok (by omega) (by omega) h3, h3.1, h3.2, by omega, by omega⟩
        · exact .inl ⟨_, wy_kind (by omega) (by omega) h3, by decide, by decide⟩
end
theorem rnm_err {s : Tx} {many : Int} {e : Nat} (_he : 0 < e) (h : wy 1 4 s many = (0, [], e)) : rnm s many = ([], e) := by
  by_cases h1 : many < 0
  · rw [wy_neg h1] at h; rw [rnm_neg h1]; simp at h; rw [← h]
  · by_cases h2 : 64 < many
    · rw [wy_many h2] at h; rw [rnm_many h2]; simp at h; rw [← h]
    · cases s with
      | nil => rw [wy_nil (by omega) (by omega)] at h; rw [rnm_nil (by omega) (by omega)]; simp at h; rw [← h]
      | cons c t =>
        by_cases h3 : 1 ≤ c.toNat ∧ c.toNat ≤ 4
        · rw [wy_ok (by omega) (by omega) h3] at h; simp at h; omega
        · rw [wy_kind (by omega) (by omega) h3] at h
          rw [rnm_cons (by omega) (by omega), if_neg (by omega), if_neg (by omega), if_neg (by omega), if_neg (by omega)]
          simp at h; rw [← h]
theorem rtx_err {s : Tx} {many : Int} {e : Nat} (_he : 0 < e) (h : wy 5 7 s many = (0, [], e)) : rtx s many = ([], e) := by
  by_cases h1 : many < 0
  · rw [wy_neg h1] at h; rw [rtx_neg h1]; simp at h; rw [← h]
  · by_cases h2 : 64 < many
    · rw [wy_many h2] at h; rw [rtx_many h2]; simp at h; rw [← h]
    · cases s with
      | nil => rw [wy_nil (by omega) (by omega)] at h; rw [rtx_nil (by omega) (by omega)]; simp at h; rw [← h]
      | cons c t =>
        by_cases h3 : 5 ≤ c.toNat ∧ c.toNat ≤ 7
        · rw [wy_ok (by omega) (by omega) h3] at h; simp at h; omega
        · rw [wy_kind (by omega) (by omega) h3] at h
          rw [rtx_cons (by omega) (by omega), if_neg (by omega), if_neg (by omega), if_neg (by omega)]
          simp at h; rw [← h]
end Hy.Cod
namespace Go.Proofs.YthgnipangcmanaaGreat
open Go.RowKit Hy
set_option maxHeartbeats 1000000 in
theorem readWideB_own (s : ByteArray) (many : Int) (w : World) :
    Calls Tryz.prog 118 #[.string s, .int .i64 many, .func (.func 113) #[] #[]] w (NumsOwn 34 (Cod.wde (Cod.rpk many) s.data.toList).1 (Cod.wde (Cod.rpk many) s.data.toList).2 w) := by
  cases hd : s.data.toList with
  | nil =>
    rw [Cod.wde_nil]
    obtain rfl : s = ⟨#[]⟩ := by
      apply ByteArray.ext; apply Array.ext'; rw [hd]
    clear hd
    go_enter Tryz.func118, Tryz.ntmps118
    go_wp2
    go_returns
    exact ⟨.slice none 0 0, rfl, World.ownsRow_nil _ _ _ _, ext_refl _⟩
  | cons c t =>
    have hsl : s.size = t.length + 1 := by have := congrArg List.length hd; rw [Array.length_toList] at this; simpa using this
    have hT := fun wx : World => run_from (P := Tryz.prog) (w := wx) Tryz.underlying9 s .i64 1 (by omega)
    have hX := fun wx : World => run_ix0 (P := Tryz.prog) (w := wx) Tryz.underlying9 s .i64 c t hd
    have h11 : ((1 : Nat) : Int) = 1 := rfl
    simp only [hd, List.drop_succ_cons, List.drop_zero, h11] at hT
    have e1 : s.toList.isEmpty = false := by
      have : s.toList = s.data.toList := toList_data s
      rw [this, hd]; rfl
    have HRE := hid (fun wx => show Calls Tryz.prog 113 #[.string ⟨t.toArray⟩, .int .i64 many, .int .i64 c.toNat] wx (NumsOwn 34 (Cod.rpk many t c.toNat).1 (Cod.rpk many t c.toNat).2 wx) from unpack_own ⟨t.toArray⟩ many c.toNat wx)
    have HLT := hid (Cod.rpk_lt many t c.toNat).1
    have hlen := (Cod.rpk_lt many t c.toNat).2
    obtain ⟨TT, hTT⟩ : ∃ S : ByteArray, S = ⟨t.toArray⟩ := ⟨_, rfl⟩
    rw [← hTT] at HRE hT
    have hc8 : c.toNat < 256 := c.toNat_lt
    have HB := hid (@Cod.wde_bad (Cod.rpk many) c t)
    have HF := hid (@Cod.wde_form (Cod.rpk many) c t)
    have HO := hid (@Cod.wde_ok (Cod.rpk many) c t)
    obtain ⟨R, hR⟩ : ∃ R, R = Cod.wde (Cod.rpk many) (c :: t) := ⟨_, rfl⟩
    rw [← hR] at HB HF HO ⊢
    unfold NumsOwn at HRE
    obtain ⟨L, er, hl⟩ : ∃ L er, Cod.rpk many t c.toNat = (L, er) := ⟨_, _, rfl⟩
    rw [hl] at HRE HLT hlen HB HF HO
    simp only at HRE HLT hlen HB HF HO
    clear hTT hl hR hd hsl
    generalize c.toNat = z at *
    have hzI : (z : Int) ≤ 255 := by omega
    obtain ⟨m, hm⟩ : ∃ m, m = L.length := ⟨_, rfl⟩
    rw [← hm] at HRE hlen
    have HM := hid hm
    have hmI : (m : Int) ≤ 64 := by omega
    clear hm hc8
    by_cases he : er = 0
    · subst he
      have HWA := hid (fun A c wx h => width_any L A m c wx HM.out.symm h HLT.out (by omega))
      obtain ⟨wi, hwi⟩ : ∃ wi, wi = Bits.width L := ⟨_, rfl⟩
      rw [← hwi] at HWA HF HO
      by_cases hw : wi = z
      · have HRR := hid (HO.out rfl hw)
        subst hw
        clear HB HF HO hlen hwi
        go_enter Tryz.func118, Tryz.ntmps118
        go_wp2_with fail
        refine Calls.mono (HRE.out _) ?_
        rintro e w1 ⟨v, rfl, hown, hx⟩
        obtain ⟨A, cp, rfl, hrd, _⟩ := Rd.owned hown
        have HRD := hid hrd
        have HOW := hid hown
        have HX := hid hx
        clear hrd hx hown
        go_wp2_with fail
        refine Calls.mono (HWA.out _ _ _ HRD.out) ?_
        rintro e _ ⟨rfl, rfl⟩
        go_wp2
        go_returns
        rw [HRR.out]
        exact ⟨_, rfl, by rw [← HM.out]; exact HOW.out, HX.out⟩
      · have HRR := hid (HF.out rfl hw)
        have h3 : ((wi : Int) != (z : Int)) = true := by rw [bne_iff_ne]; omega
        have h4 : ((wi : Int) == (z : Int)) = false := by rw [beq_eq_false_iff_ne]; omega
        clear HB HF HO hlen hwi hw
        go_enter Tryz.func118, Tryz.ntmps118
        go_wp2_with fail
        refine Calls.mono (HRE.out _) ?_
        rintro e w1 ⟨v, rfl, hown, hx⟩
        obtain ⟨A, cp, rfl, hrd, _⟩ := Rd.owned hown
        have HRD := hid hrd
        have HOW := hid hown
        have HX := hid hx
        clear hrd hx hown
        go_wp2_with fail
        refine Calls.mono (HWA.out _ _ _ HRD.out) ?_
        rintro e _ ⟨rfl, rfl⟩
        go_wp2
        go_returns
        rw [HRR.out]
        exact ⟨.slice none 0 0, rfl, World.ownsRow_nil _ _ _ _, HX.out⟩
    · have HRR := hid (HB.out he)
      have h3 : ((er : Int) != 0) = true := by rw [bne_iff_ne]; omega
      have h4 : ((er : Int) == 0) = false := by rw [beq_eq_false_iff_ne]; omega
      clear HB HF HO hlen he
      go_enter Tryz.func118, Tryz.ntmps118
      go_wp2_with fail
      refine Calls.mono (HRE.out _) ?_
      rintro e w1 ⟨v, rfl, hown, hx⟩
      obtain ⟨A, cp, rfl, _⟩ := Rd.owned hown
      have HX := hid hx
      clear hown hx
      go_wp2
      go_returns
      rw [HRR.out]
      exact ⟨.slice none 0 0, rfl, World.ownsRow_nil _ _ _ _, HX.out⟩
set_option maxHeartbeats 1000000 in
theorem readWideH_own (s : ByteArray) (many : Int) (w : World) :
    Calls Tryz.prog 118 #[.string s, .int .i64 many, .func (.func 119) #[] #[]] w (NumsOwn 34 (Cod.wde (Cod.rhy many) s.data.toList).1 (Cod.wde (Cod.rhy many) s.data.toList).2 w) := by
  cases hd : s.data.toList with
  | nil =>
    rw [Cod.wde_nil]
    obtain rfl : s = ⟨#[]⟩ := by
      apply ByteArray.ext; apply Array.ext'; rw [hd]
    clear hd
    go_enter Tryz.func118, Tryz.ntmps118
    go_wp2
    go_returns
    exact ⟨.slice none 0 0, rfl, World.ownsRow_nil _ _ _ _, ext_refl _⟩
  | cons c t =>
    have hsl : s.size = t.length + 1 := by have := congrArg List.length hd; rw [Array.length_toList] at this; simpa using this
    have hT := fun wx : World => run_from (P := Tryz.prog) (w := wx) Tryz.underlying9 s .i64 1 (by omega)
    have hX := fun wx : World => run_ix0 (P := Tryz.prog) (w := wx) Tryz.underlying9 s .i64 c t hd
    have h11 : ((1 : Nat) : Int) = 1 := rfl
    simp only [hd, List.drop_succ_cons, List.drop_zero, h11] at hT
    have e1 : s.toList.isEmpty = false := by
      have : s.toList = s.data.toList := toList_data s
      rw [this, hd]; rfl
    have HRE := hid (fun wx => show Calls Tryz.prog 119 #[.string ⟨t.toArray⟩, .int .i64 many, .int .i64 c.toNat] wx (NumsOwn 34 (Cod.rhy many t c.toNat).1 (Cod.rhy many t c.toNat).2 wx) from hyRead_own ⟨t.toArray⟩ many c.toNat wx)
    have HLT := hid (Cod.rhy_lt many t c.toNat).1
    have hlen := (Cod.rhy_lt many t c.toNat).2
    obtain ⟨TT, hTT⟩ : ∃ S : ByteArray, S = ⟨t.toArray⟩ := ⟨_, rfl⟩
    rw [← hTT] at HRE hT
    have hc8 : c.toNat < 256 := c.toNat_lt
    have HB := hid (@Cod.wde_bad (Cod.rhy many) c t)
    have HF := hid (@Cod.wde_form (Cod.rhy many) c t)
    have HO := hid (@Cod.wde_ok (Cod.rhy many) c t)
    obtain ⟨R, hR⟩ : ∃ R, R = Cod.wde (Cod.rhy many) (c :: t) := ⟨_, rfl⟩
    rw [← hR] at HB HF HO ⊢
    unfold NumsOwn at HRE
    obtain ⟨L, er, hl⟩ : ∃ L er, Cod.rhy many t c.toNat = (L, er) := ⟨_, _, rfl⟩
    rw [hl] at HRE HLT hlen HB HF HO
    simp only at HRE HLT hlen HB HF HO
    clear hTT hl hR hd hsl
    generalize c.toNat = z at *
    have hzI : (z : Int) ≤ 255 := by omega
    obtain ⟨m, hm⟩ : ∃ m, m = L.length := ⟨_, rfl⟩
    rw [← hm] at HRE hlen
    have HM := hid hm
    have hmI : (m : Int) ≤ 64 := by omega
    clear hm hc8
    by_cases he : er = 0
    · subst he
      have HWA := hid (fun A c wx h => width_any L A m c wx HM.out.symm h HLT.out (by omega))
      obtain ⟨wi, hwi⟩ : ∃ wi, wi = Bits.width L := ⟨_, rfl⟩
      rw [← hwi] at HWA HF HO
      by_cases hw : wi = z
      · have HRR := hid (HO.out rfl hw)
        subst hw
        clear HB HF HO hlen hwi
        go_enter Tryz.func118, Tryz.ntmps118
        go_wp2_with fail
        refine Calls.mono (HRE.out _) ?_
        rintro e w1 ⟨v, rfl, hown, hx⟩
        obtain ⟨A, cp, rfl, hrd, _⟩ := Rd.owned hown
        have HRD := hid hrd
        have HOW := hid hown
        have HX := hid hx
        clear hrd hx hown
        go_wp2_with fail
        refine Calls.mono (HWA.out _ _ _ HRD.out) ?_
        rintro e _ ⟨rfl, rfl⟩
        go_wp2
        go_returns
        rw [HRR.out]
        exact ⟨_, rfl, by rw [← HM.out]; exact HOW.out, HX.out⟩
      · have HRR := hid (HF.out rfl hw)
        have h3 : ((wi : Int) != (z : Int)) = true := by rw [bne_iff_ne]; omega
        have h4 : ((wi : Int) == (z : Int)) = false := by rw [beq_eq_false_iff_ne]; omega
        clear HB HF HO hlen hwi hw
        go_enter Tryz.func118, Tryz.ntmps118
        go_wp2_with fail
        refine Calls.mono (HRE.out _) ?_
        rintro e w1 ⟨v, rfl, hown, hx⟩
        obtain ⟨A, cp, rfl, hrd, _⟩ := Rd.owned hown
        have HRD := hid hrd
        have HOW := hid hown
        have HX := hid hx
        clear hrd hx hown
        go_wp2_with fail
        refine Calls.mono (HWA.out _ _ _ HRD.out) ?_
        rintro e _ ⟨rfl, rfl⟩
        go_wp2
        go_returns
        rw [HRR.out]
        exact ⟨.slice none 0 0, rfl, World.ownsRow_nil _ _ _ _, HX.out⟩
    · have HRR := hid (HB.out he)
      have h3 : ((er : Int) != 0) = true := by rw [bne_iff_ne]; omega
      have h4 : ((er : Int) == 0) = false := by rw [beq_eq_false_iff_ne]; omega
      clear HB HF HO hlen he
      go_enter Tryz.func118, Tryz.ntmps118
      go_wp2_with fail
      refine Calls.mono (HRE.out _) ?_
      rintro e w1 ⟨v, rfl, hown, hx⟩
      obtain ⟨A, cp, rfl, _⟩ := Rd.owned hown
      have HX := hid hx
      clear hown hx
      go_wp2
      go_returns
      rw [HRR.out]
      exact ⟨.slice none 0 0, rfl, World.ownsRow_nil _ _ _ _, HX.out⟩
set_option maxHeartbeats 800000 in
theorem wayN_any (s : ByteArray) (many : Int) (w : World) :
    Calls Tryz.prog 116 #[.string s, .int .i64 many, .func (.func 117) #[] #[]] w fun e w' => e = .returned (.tuple #[.int .i64 (Cod.wy 1 4 s.data.toList many).1, .string ⟨(Cod.wy 1 4 s.data.toList many).2.1.toArray⟩, .int .i64 (Cod.wy 1 4 s.data.toList many).2.2]) ∧ Ext w w' := by
  by_cases h1 : many < 0
  · rw [Cod.wy_neg h1]
    go_enter Tryz.func116, Tryz.ntmps116
    go_wp2
    go_returns
    exact ⟨rfl, ext_refl _⟩
  by_cases h2 : 64 < many
  · rw [Cod.wy_many h2]
    go_enter Tryz.func116, Tryz.ntmps116
    go_wp2
    go_returns
    exact ⟨rfl, ext_refl _⟩
  cases hd : s.data.toList with
  | nil =>
    rw [Cod.wy_nil (by omega) (by omega)]
    obtain rfl : s = ⟨#[]⟩ := by
      apply ByteArray.ext; apply Array.ext'; rw [hd]
    clear hd
    go_enter Tryz.func116, Tryz.ntmps116
    go_wp2
    go_returns
    exact ⟨rfl, ext_refl _⟩
  | cons c t =>
    have hsl : s.size = t.length + 1 := by have := congrArg List.length hd; rw [Array.length_toList] at this; simpa using this
    have hT := fun wx : World => run_from (P := Tryz.prog) (w := wx) Tryz.underlying9 s .i64 1 (by omega)
    have hX := fun wx : World => run_ix0 (P := Tryz.prog) (w := wx) Tryz.underlying9 s .i64 c t hd
    have h11 : ((1 : Nat) : Int) = 1 := rfl
    simp only [hd, List.drop_succ_cons, List.drop_zero, h11] at hT
    have e1 : s.toList.isEmpty = false := by
      have : s.toList = s.data.toList := toList_data s
      rw [this, hd]; rfl
    have C1 := hid (fun wx => isNumbers_any (c.toNat : Int) wx)
    by_cases hk : 1 ≤ c.toNat ∧ c.toNat ≤ 4
    · rw [Cod.wy_ok (by omega) (by omega) hk]
      rw [decide_eq_true (by omega)] at C1
      have hc8 : c.toNat < 256 := c.toNat_lt
      obtain ⟨TT, hTT⟩ : ∃ S : ByteArray, S = ⟨t.toArray⟩ := ⟨_, rfl⟩
      simp only [← hTT] at hT ⊢
      clear hTT hd hsl hk
      generalize c.toNat = z at *
      have hzI : (z : Int) ≤ 255 := by omega
      clear hc8
      go_enter Tryz.func116, Tryz.ntmps116
      go_wp2_with fail
      refine Calls.mono (C1.out _) ?_
      rintro e _ ⟨rfl, rfl⟩
      go_wp2
      refine wp_region_walk [(0, true), (1, true), (2, true), (3, true), (4, true), (5, true), (6, true), (7, true)] (by kernel_rfl) (by kernel_rfl) (fun _ _ _ _ _ h => h) (by kernel_rfl) (by rfl) ?_
      simp only [List.filterMap_cons, List.filterMap_nil, List.getElem?_toArray, List.getElem?_cons_zero, List.getElem?_cons_succ, Option.map_some]
      repeat (refine wpM_val (by rfl) ?_; intro K hK; go_big_quiet_op; go_big_quiet_on)
      refine wpM_nil ?_
      go_wp2
      go_returns
      exact ⟨rfl, (ext_refl _).draw⟩
    · rw [Cod.wy_kind (by omega) (by omega) hk]
      rw [decide_eq_false (by omega)] at C1
      have hc8 : c.toNat < 256 := c.toNat_lt
      clear hd hsl hk hT
      generalize c.toNat = z at *
      have hzI : (z : Int) ≤ 255 := by omega
      clear hc8
      go_enter Tryz.func116, Tryz.ntmps116
      go_wp2_with fail
      refine Calls.mono (C1.out _) ?_
      rintro e _ ⟨rfl, rfl⟩
      go_wp2
      go_returns
      exact ⟨rfl, ext_refl _⟩
set_option maxHeartbeats 800000 in
theorem wayT_any (s : ByteArray) (many : Int) (w : World) :
    Calls Tryz.prog 116 #[.string s, .int .i64 many, .func (.func 122) #[] #[]] w fun e w' => e = .returned (.tuple #[.int .i64 (Cod.wy 5 7 s.data.toList many).1, .string ⟨(Cod.wy 5 7 s.data.toList many).2.1.toArray⟩, .int .i64 (Cod.wy 5 7 s.data.toList many).2.2]) ∧ Ext w w' := by
  by_cases h1 : many < 0
  · rw [Cod.wy_neg h1]
    go_enter Tryz.func116, Tryz.ntmps116
    go_wp2
    go_returns
    exact ⟨rfl, ext_refl _⟩
  by_cases h2 : 64 < many
  · rw [Cod.wy_many h2]
    go_enter Tryz.func116, Tryz.ntmps116
    go_wp2
    go_returns
    exact ⟨rfl, ext_refl _⟩
  cases hd : s.data.toList with
  | nil =>
    rw [Cod.wy_nil (by omega) (by omega)]
    obtain rfl : s = ⟨#[]⟩ := by
      apply ByteArray.ext; apply Array.ext'; rw [hd]
    clear hd
    go_enter Tryz.func116, Tryz.ntmps116
    go_wp2
    go_returns
    exact ⟨rfl, ext_refl _⟩
  | cons c t =>
    have hsl : s.size = t.length + 1 := by have := congrArg List.length hd; rw [Array.length_toList] at this; simpa using this
    have hT := fun wx : World => run_from (P := Tryz.prog) (w := wx) Tryz.underlying9 s .i64 1 (by omega)
    have hX := fun wx : World => run_ix0 (P := Tryz.prog) (w := wx) Tryz.underlying9 s .i64 c t hd
    have h11 : ((1 : Nat) : Int) = 1 := rfl
    simp only [hd, List.drop_succ_cons, List.drop_zero, h11] at hT
    have e1 : s.toList.isEmpty = false := by
      have : s.toList = s.data.toList := toList_data s
      rw [this, hd]; rfl
    have C1 := hid (fun wx => isTexts_any (c.toNat : Int) wx)
    by_cases hk : 5 ≤ c.toNat ∧ c.toNat ≤ 7
    · rw [Cod.wy_ok (by omega) (by omega) hk]
      rw [decide_eq_true (by omega)] at C1
      have hc8 : c.toNat < 256 := c.toNat_lt
      obtain ⟨TT, hTT⟩ : ∃ S : ByteArray, S = ⟨t.toArray⟩ := ⟨_, rfl⟩
      simp only [← hTT] at hT ⊢
      clear hTT hd hsl hk
      generalize c.toNat = z at *
      have hzI : (z : Int) ≤ 255 := by omega
      clear hc8
      go_enter Tryz.func116, Tryz.ntmps116
      go_wp2_with fail
      refine Calls.mono (C1.out _) ?_
      rintro e _ ⟨rfl, rfl⟩
      go_wp2
      refine wp_region_walk [(0, true), (1, true), (2, true), (3, true), (4, true), (5, true), (6, true), (7, true)] (by kernel_rfl) (by kernel_rfl) (fun _ _ _ _ _ h => h) (by kernel_rfl) (by rfl) ?_
      simp only [List.filterMap_cons, List.filterMap_nil, List.getElem?_toArray, List.getElem?_cons_zero, List.getElem?_cons_succ, Option.map_some]
      repeat (refine wpM_val (by rfl) ?_; intro K hK; go_big_quiet_op; go_big_quiet_on)
      refine wpM_nil ?_
      go_wp2
      go_returns
      exact ⟨rfl, (ext_refl _).draw⟩
    · rw [Cod.wy_kind (by omega) (by omega) hk]
      rw [decide_eq_false (by omega)] at C1
      have hc8 : c.toNat < 256 := c.toNat_lt
      clear hd hsl hk hT
      generalize c.toNat = z at *
      have hzI : (z : Int) ≤ 255 := by omega
      clear hc8
      go_enter Tryz.func116, Tryz.ntmps116
      go_wp2_with fail
      refine Calls.mono (C1.out _) ?_
      rintro e _ ⟨rfl, rfl⟩
      go_wp2
      go_returns
      exact ⟨rfl, ext_refl _⟩
set_option maxHeartbeats 1000000 in
theorem readNumbers_own (s : ByteArray) (many : Int) (w : World) (hs : s.size ≤ 281474976710656) :
    Calls Tryz.prog 80 #[.string s, .int .i64 many] w (NumsOwn 34 (Cod.rnm s.data.toList many).1 (Cod.rnm s.data.toList many).2 w) := by
  have CW := hid (wayN_any s many w)
  rcases Cod.wy_cases 1 4 s.data.toList many with ⟨er, h1, h2, h3⟩ | ⟨c, t, h1, h2, h3, h4, h5, h6⟩
  · rw [Cod.rnm_err h2 h1]
    rw [h1] at CW
    have h4 : ((er : Int) != 0) = true := by rw [bne_iff_ne]; omega
    have h5 : ((er : Int) == 0) = false := by rw [beq_eq_false_iff_ne]; omega
    clear h1 h2 h3
    go_enter Tryz.func80, Tryz.ntmps80
    go_wp2_with fail
    refine Calls.mono CW.out ?_
    rintro e w1 ⟨rfl, hx⟩
    have HX := hid hx
    clear hx
    go_wp2
    go_returns
    exact ⟨.slice none 0 0, rfl, World.ownsRow_nil _ _ _ _, HX.out⟩
  · rw [h2] at CW
    have htl : t.length ≤ s.size := by have := congrArg List.length h1; rw [Array.length_toList] at this; have h8 : s.data.size = s.size := rfl; simp at this; omega
    rw [h1, Cod.rnm_cons h5 h6]
    obtain ⟨TT, hTT⟩ : ∃ S : ByteArray, S = ⟨t.toArray⟩ := ⟨_, rfl⟩
    have htt : t = TT.data.toList := by rw [hTT]
    have hts : TT.size ≤ s.size := by rw [hTT, str_size]; exact htl
    simp only [← hTT] at CW
    rw [htt]
    clear hTT htt htl h1 h2
    obtain h | h | h | h : c.toNat = 1 ∨ c.toNat = 2 ∨ c.toNat = 3 ∨ c.toNat = 4 := by omega
    all_goals
      rw [h] at CW ⊢
      clear h h3 h4
    · simp (config := {decide := true}) only [if_true, if_false]
      have HC := hid (fun wx => readWideB_own TT many wx)
      clear hts hs
      go_enter Tryz.func80, Tryz.ntmps80
      go_wp2_with fail
      refine Calls.mono CW.out ?_
      rintro e w1 ⟨rfl, hx⟩
      have HX := hid hx
      clear hx
      go_wp2_with fail
      refine Calls.mono (HC.out _) ?_
      rintro e w2 ⟨v, rfl, hown, hx2⟩
      obtain ⟨A, cp, rfl, _⟩ := Rd.owned hown
      have HOW := hid (own_low' hown HX.out.size)
      have HX2 := hid (HX.out.then hx2)
      clear hown hx2
      go_wp2
      go_returns
      exact ⟨_, rfl, HOW.out, HX2.out⟩
    · simp (config := {decide := true}) only [if_true, if_false]
      have HC := hid (fun wx => readWideH_own TT many wx)
      clear hts hs
      go_enter Tryz.func80, Tryz.ntmps80
      go_wp2_with fail
      refine Calls.mono CW.out ?_
      rintro e w1 ⟨rfl, hx⟩
      have HX := hid hx
      clear hx
      go_wp2_with fail
      refine Calls.mono (HC.out _) ?_
      rintro e w2 ⟨v, rfl, hown, hx2⟩
      obtain ⟨A, cp, rfl, _⟩ := Rd.owned hown
      have HOW := hid (own_low' hown HX.out.size)
      have HX2 := hid (HX.out.then hx2)
      clear hown hx2
      go_wp2
      go_returns
      exact ⟨_, rfl, HOW.out, HX2.out⟩
    · simp (config := {decide := true}) only [if_true, if_false]
      have HC := hid (fun wx => dRead_own TT many wx (by omega))
      clear hts hs
      go_enter Tryz.func80, Tryz.ntmps80
      go_wp2_with fail
      refine Calls.mono CW.out ?_
      rintro e w1 ⟨rfl, hx⟩
      have HX := hid hx
      clear hx
      go_wp2_with fail
      refine Calls.mono (HC.out _) ?_
      rintro e w2 ⟨v, rfl, hown, hx2⟩
      obtain ⟨A, cp, rfl, _⟩ := Rd.owned hown
      have HOW := hid (own_low' hown HX.out.size)
      have HX2 := hid (HX.out.then hx2)
      clear hown hx2
      go_wp2
      go_returns
      exact ⟨_, rfl, HOW.out, HX2.out⟩
    · simp (config := {decide := true}) only [if_true, if_false]
      have HC := hid (fun wx => pRead_own TT many wx (by omega))
      clear hts hs
      go_enter Tryz.func80, Tryz.ntmps80
      go_wp2_with fail
      refine Calls.mono CW.out ?_
      rintro e w1 ⟨rfl, hx⟩
      have HX := hid hx
      clear hx
      go_wp2_with fail
      refine Calls.mono (HC.out _) ?_
      rintro e w2 ⟨v, rfl, hown, hx2⟩
      obtain ⟨A, cp, rfl, _⟩ := Rd.owned hown
      have HOW := hid (own_low' hown HX.out.size)
      have HX2 := hid (HX.out.then hx2)
      clear hown hx2
      go_wp2
      go_returns
      exact ⟨_, rfl, HOW.out, HX2.out⟩
theorem readNumbers_any (s : ByteArray) (many : Int) (w : World) (hs : s.size ≤ 281474976710656) :
    Calls Tryz.prog 80 #[.string s, .int .i64 many] w (NumsOut (Cod.rnm s.data.toList many).1 (Cod.rnm s.data.toList many).2 w) :=
  Calls.mono (readNumbers_own s many w hs) fun _ _ h => NumsOwn.out h
end Go.Proofs.YthgnipangcmanaaGreat
end
section
namespace Hy.Cod
open Go
theorem rdl_fit {s : Tx} {many : Int} (h : (Front.rdl s many).2 = 0) : (Front.rdl s many).1.length ≤ 64 ∧ ∀ x ∈ (Front.rdl s many).1, x.length ≤ 16 := by
  obtain ⟨h1, _, h3⟩ := Front.rdl_only (l := (Front.rdl s many).1) (Prod.ext rfl h)
  refine ⟨h3, ?_⟩
  by_cases hf : (Front.rdl s many).1.length ≤ 64 ∧ Front.fitB (Front.rdl s many).1 = true
  · exact (Front.fitB_iff _).1 hf.2
  · rw [Front.wrt_bad hf] at h1; simp at h1
end Hy.Cod
namespace Go.Proofs.YthgnipangcmanaaGreat
open Go.RowKit Hy
set_option maxRecDepth 100000 in
set_option maxHeartbeats 2000000 in
theorem readPlain_any (s0 : ByteArray) (mm : Nat) (w : World) (hs : s0.size ≤ 281474976710656) (hm : mm ≤ 64) :
    Calls Tryz.prog 123 #[.string s0, .int .i64 mm] w (TextsOut (Cod.rpl mm s0.data.toList []).1 (Cod.rpl mm s0.data.toList []).2 w) := by
  obtain ⟨R, hR⟩ : ∃ R, R = Cod.rpl mm s0.data.toList [] := ⟨_, rfl⟩
  rw [← hR]
  have HR := hid hR
  have HSS := hid hs
  have hmI : (mm : Int) ≤ 64 := by omega
  clear hR hs
  go_enter Tryz.func123, Tryz.ntmps123
  go_wp2
  go_loopw [0, 6, 7, 8, 9, 10, 12] (fun sv v _ _ _ _ c wr => ∃ (i : Nat) (S : ByteArray) (o : List (List UInt8)), i ≤ mm ∧ c = .int .i64 i ∧ sv = .string S ∧ S.size ≤ 281474976710656 ∧ o.length = i ∧ Hid (R = Cod.rpl (mm - i) S.data.toList o) ∧ Hid (wr.ownsRow w.heap.size 9 1 v o.length (txs o)) ∧ Hid (Ext w wr)) (fun _ _ _ _ _ _ c _ => mm - (intOf c).toNat)
  case atStart => exact ⟨0, s0, [], Nat.zero_le _, rfl, rfl, HSS.out, rfl, HR, hid (World.ownsRow_nil _ _ _ _), hid (ext_refl _)⟩
  case round =>
    obtain ⟨i, S, o, hi, rfl, rfl, hS, ho, HI, HO, HX⟩ := hrel
    by_cases hlt : i < mm
    · obtain ⟨j, hj⟩ : ∃ j, mm - i = j + 1 := ⟨mm - i - 1, by omega⟩
      have hj2 : mm - (i + 1) = j := by omega
      have e2 := HI.out
      rw [hj] at e2
      have CR := hid (fun wx => read_any S wx)
      obtain ⟨n, k, er, hrd⟩ : ∃ n k er, Vary.rd S.data.toList = (n, k, er) := ⟨_, _, _, rfl⟩
      rw [hrd] at CR
      simp only at CR
      have hltI : (i : Int) < (mm : Int) := by omega
      have hiI : (i : Int) ≤ 64 := by omega
      by_cases he : er = 0
      · subst he
        obtain ⟨g1, g2, g3, g4, _⟩ := Vary.rd_ok (s := S.data.toList) (by rw [hrd])
        rw [hrd] at g1 g2 g3 g4
        simp only at g1 g2 g3 g4
        rw [Array.length_toList] at g2
        have hsz : S.data.size = S.size := rfl
        have hdl : (S.data.toList.drop k).length = S.size - k := by rw [List.length_drop, Array.length_toList, hsz]
        rw [hsz] at g2
        have hkI : (k : Int) ≤ 9 := by omega
        have hSzI : (S.size : Int) ≤ 281474976710656 := by omega
        have hkS : (k : Int) ≤ (S.size : Int) := by omega
        by_cases hn16 : 16 < n
        · have HE := hid (show R = ([], 2) by rw [e2, Cod.rpl_bad (Cod.one_many hrd hn16) (by decide)])
          have hnI : (16 : Int) < (n : Int) := by omega
          clear hrd e2 HI hS ho hi hj hj2 hm hlt hn16 hdl hsz g1 g2 g3 g4 HR HSS
          go_wp2_with (first
            | (go_at_call 52; refine Calls.mono (CR.out _) ?_; rintro e' w2 ⟨rfl, hx2⟩; have HX2 := hid (HX.out.then hx2); have HO2 := hid (own_ext HO.out hx2); clear hx2))
          go_returns
          exact ⟨none, 0, by rw [HE.out]; rfl, fun h => by rw [HE.out] at h; simp [txs] at h, HX2.out⟩
        · have hnI : ¬ (16 : Int) < (n : Int) := by omega
          have hn2 : (n : Int) ≤ 16 := by omega
          have hwn : IntKind.i64.wrap (n : Int) = (n : Int) := by rw [IntKind.wrap_i64]; omega
          have hwu : IntKind.u64.wrap ((S.size : Int) - (k : Int)) = (S.size : Int) - (k : Int) := by rw [IntKind.wrap_u64]; omega
          by_cases h5 : S.size - k < n
          · have HE := hid (show R = ([], 5) by rw [e2, Cod.rpl_bad (Cod.one_none hrd hn16 (by rw [hdl]; exact h5)) (by decide)])
            have h5I : (S.size : Int) - (k : Int) < (n : Int) := by omega
            clear hrd e2 HI hS ho hi hj hj2 hm hlt hn16 hdl hsz g1 g2 g3 g4 HR HSS h5
            go_wp2_with (first
              | (go_at_call 52; refine Calls.mono (CR.out _) ?_; rintro e' w2 ⟨rfl, hx2⟩; have HX2 := hid (HX.out.then hx2); have HO2 := hid (own_ext HO.out hx2); clear hx2))
            go_returns
            exact ⟨none, 0, by rw [HE.out]; rfl, fun h => by rw [HE.out] at h; simp [txs] at h, HX2.out⟩
          · have h5I : ¬ (S.size : Int) - (k : Int) < (n : Int) := by omega
            have hon := Cod.one_ok hrd hn16 (by rw [hdl]; exact h5)
            rw [Cod.rpl_ok hon] at e2
            have hF := fun wx : World => run_fromto (P := Tryz.prog) (w := wx) Tryz.underlying9 S .i64 .i64 k (k + n) (by omega) (by omega)
            have hT := fun wx : World => run_from (P := Tryz.prog) (w := wx) Tryz.underlying9 S .i64 (k + n) (by omega)
            rw [Nat.add_sub_cancel_left] at hF
            rw [← List.drop_drop] at hT
            simp only [Int.natCast_add] at hF hT
            obtain ⟨t, ht⟩ : ∃ t, t = (S.data.toList.drop k).take n := ⟨_, rfl⟩
            obtain ⟨r, hr⟩ : ∃ r, r = (S.data.toList.drop k).drop n := ⟨_, rfl⟩
            rw [← ht] at hF e2
            rw [← hr] at hT e2
            have hrl : r.length ≤ 281474976710656 := by rw [hr, List.length_drop, hdl]; omega
            obtain ⟨U, hU⟩ : ∃ U : ByteArray, U = ⟨r.toArray⟩ := ⟨_, rfl⟩
            have hUr : U.data.toList = r := by rw [hU]
            rw [← hU] at hT
            have HE := hid (show R = Cod.rpl (mm - (i + 1)) U.data.toList (o ++ [t]) by rw [e2, hj2, hUr])
            have HUL := hid (show U.size ≤ 281474976710656 by rw [hU, str_size]; exact hrl)
            have HOL := hid (show (o ++ [t]).length = i + 1 by rw [List.length_append]; simp; omega)
            have HOL0 := hid ho
            have HIM := hid hlt
            have HI64 := hid (show i ≤ 64 by omega)
            clear hrd e2 HI hS ho hi hj hj2 hm hn16 hdl hsz g1 g2 g3 g4 HR HSS h5 hon ht hr hrl hU hUr hlt
            go_wp2_with (first
              | (go_at_call 52; refine Calls.mono (CR.out _) ?_; rintro e' w2 ⟨rfl, hx2⟩; have HX2 := hid (HX.out.then hx2); have HO2 := hid (own_ext HO.out hx2); clear hx2)
              | (at_builtin; refine wpList_app rfl (.tmp 39) (.tmp 44) rowTx rfl _ o.length _ rfl (HO2.out.alloc _) _ 1 (txs [t]) rfl (Src.rd Tryz.underlying64 _ 1 1 _ rfl (rd_lit rfl rfl) (txs_one _) (fun h => by cases h)) (by have := HI64.out; have := HOL0.out; unfold maxLen; omega) (by have := HI64.out; have := HOL0.out; omega) (by have := HX2.out.size; simp; omega) ?_; intro v' w3 hown3 hgrow hat hbel; have HO3 := hid hown3; have HX3 : Hid (Ext w w3) := hid (Below.trans (Ext.new HX2.out _) hbel); clear hown3 hgrow hat hbel))
            go_roundw
            case rel => exact ⟨i + 1, U, o ++ [t], HIM.out, by go_num, rfl, HUL.out, HOL.out, HE, hid (by rw [txs_app, List.length_append]; exact HO3.out), HX3⟩
            case measure => simp [intOf]; have := HIM.out; omega
      · have HE := hid (show R = ([], er) by rw [e2, Cod.rpl_bad (Cod.one_bad hrd he) he])
        have h3 : ((er : Int) != 0) = true := by rw [bne_iff_ne]; omega
        have h4 : ((er : Int) == 0) = false := by rw [beq_eq_false_iff_ne]; omega
        clear hrd e2 HI hS ho hi hj hj2 hm hlt he HR HSS
        go_wp2_with (first
          | (go_at_call 52; refine Calls.mono (CR.out _) ?_; rintro e' w2 ⟨rfl, hx2⟩; have HX2 := hid (HX.out.then hx2); have HO2 := hid (own_ext HO.out hx2); clear hx2))
        go_returns
        exact ⟨none, 0, by rw [HE.out]; rfl, fun h => by rw [HE.out] at h; simp [txs] at h, HX2.out⟩
    · obtain rfl : i = mm := by omega
      have e2 := HI.out
      rw [Nat.sub_self] at e2
      obtain ⟨A3, c3, rfl, hrd3, _⟩ := Rd.owned HO.out
      have HRD := hid hrd3
      rw [ho]
      have HOL := hid ho
      by_cases hs0 : S.data.toList = []
      · obtain rfl : S = ⟨#[]⟩ := by
          apply ByteArray.ext; apply Array.ext'; rw [hs0]
        have HE := hid (show R = (o, 0) by rw [e2]; rfl)
        clear e2 HI hS ho hi hm hlt HR HSS hs0 hrd3 HO
        go_wp2
        go_returns
        exact ⟨A3, c3, by rw [HE.out]; show _ = Ending.returned (.tuple #[.slice A3 o.length c3, _]); rw [HOL.out]; rfl, by rw [HE.out]; exact HRD.out, HX.out⟩
      · have HE := hid (show R = ([], 1) by rw [e2]; simp only [Cod.rpl]; rw [if_neg hs0])
        have e1 : S.toList.isEmpty = false := by
          have : S.toList = S.data.toList := toList_data S
          rw [this]; simpa using hs0
        have hz : 0 < (S.size : Int) := by
          have h8 : S.data.size = S.size := rfl
          have h9 : S.data.toList.length ≠ 0 := fun h => hs0 (List.length_eq_zero_iff.1 h)
          rw [Array.length_toList] at h9; omega
        clear e2 HI hS ho hi hm hlt HR HSS hs0 hrd3 HO
        go_wp2
        go_returns
        exact ⟨none, 0, by rw [HE.out]; rfl, fun h => by rw [HE.out] at h; simp [txs] at h, HX.out⟩
set_option maxRecDepth 100000 in
set_option maxHeartbeats 2000000 in
theorem readBook_any (S : ByteArray) (mm : Nat) (w : World) (hs : S.size ≤ 281474976710656) (hm : mm ≤ 64) :
    Calls Tryz.prog 124 #[.string S, .int .i64 mm] w (TextsOut (Cod.rbk S.data.toList mm).1 (Cod.rbk S.data.toList mm).2 w) := by
  have CR := hid (fun wx => read_any S wx)
  obtain ⟨n, k, er, hrd⟩ : ∃ n k er, Vary.rd S.data.toList = (n, k, er) := ⟨_, _, _, rfl⟩
  rw [hrd] at CR
  simp only at CR
  have hmI : (mm : Int) ≤ 64 := by omega
  obtain ⟨R, hR⟩ : ∃ R, R = Cod.rbk S.data.toList mm := ⟨_, rfl⟩
  rw [← hR]
  by_cases he : er = 0
  · subst he
    obtain ⟨g1, g2, g3, g4, _⟩ := Vary.rd_ok (s := S.data.toList) (by rw [hrd])
    rw [hrd] at g1 g2 g3 g4
    simp only at g1 g2 g3 g4
    have hsz : S.data.size = S.size := rfl
    rw [Array.length_toList, hsz] at g2
    have hkI : (k : Int) ≤ 9 := by omega
    have hSzI : (S.size : Int) ≤ 281474976710656 := by omega
    have hkS : (k : Int) ≤ (S.size : Int) := by omega
    by_cases hn64 : 64 < n
    · have HE := hid (show R = ([], 2) by rw [hR, Cod.rbk_many hrd hn64])
      have hnI : (64 : Int) < (n : Int) := by omega
      clear hrd hR hs hm hsz g1 g2 g3 g4 hn64
      go_enter Tryz.func124, Tryz.ntmps124
      go_wp2_with fail
      refine Calls.mono (CR.out _) ?_
      rintro e' w1 ⟨rfl, hx⟩
      have XP := hid hx
      clear hx
      go_wp2
      go_returns
      exact ⟨none, 0, by rw [HE.out]; rfl, fun h => by rw [HE.out] at h; simp [txs] at h, XP.out⟩
    · have hnI : ¬ (64 : Int) < (n : Int) := by omega
      have hn2 : (n : Int) ≤ 64 := by omega
      have hwn : IntKind.i64.wrap (n : Int) = (n : Int) := by rw [IntKind.wrap_i64]; omega
      have hlw := Cod.lw_le (n := n) (by omega)
      have HL := hid (fun wx => lastWidth_any n wx (by omega))
      obtain ⟨lwb, hlwb⟩ : ∃ q, q = Cod.lw n := ⟨_, rfl⟩
      obtain ⟨z, hz⟩ : ∃ z, z = Bits.size mm lwb := ⟨_, rfl⟩
      obtain ⟨p, hp⟩ : ∃ p, p = mm * lwb := ⟨_, rfl⟩
      have hz' : Bits.size mm (Cod.lw n) = z := by rw [hz, hlwb]
      rw [← hlwb] at HL hlw
      have hpl : p ≤ 64 * 7 := by rw [hp]; exact Nat.mul_le_mul hm hlw
      have hpI : (p : Int) ≤ 448 := by omega
      have hlwI : (lwb : Int) ≤ 7 := by omega
      have hmul : (mm : Int) * (lwb : Int) = (p : Int) := by rw [hp, Int.natCast_mul]
      have hz8 : z = (p + 7) / 8 := by rw [hz, hp]; rfl
      have hdiv : ((p : Int) + 7) / 8 = (z : Int) := by omega
      have hzI : (z : Int) ≤ 56 := by omega
      obtain ⟨r, hr⟩ : ∃ r, r = S.data.toList.drop k := ⟨_, rfl⟩
      have hrl : r.length = S.size - k := by rw [hr, List.length_drop, Array.length_toList, hsz]
      by_cases h5 : r.length < z
      · have HE := hid (show R = ([], 5) by rw [hR, Cod.rbk_none hrd hn64 hr.symm hz' h5])
        have h5I : (S.size : Int) < (k : Int) + (z : Int) := by omega
        clear hrd hR hs hm hsz g1 g2 g3 g4 hn64 hlw hlwb hz hp hz' hpl hz8 hr hrl h5
        go_enter Tryz.func124, Tryz.ntmps124
        go_wp2_with fail
        refine Calls.mono (CR.out _) ?_
        rintro e' w1 ⟨rfl, hx⟩
        have XP := hid hx
        clear hx
        go_wp2_with fail
        refine Calls.mono (HL.out _) ?_
        rintro e' w2 ⟨rfl, hx⟩
        replace XP := hid (XP.out.then hx)
        clear hx
        go_wp2
        go_returns
        exact ⟨none, 0, by rw [HE.out]; rfl, fun h => by rw [HE.out] at h; simp [txs] at h, XP.out⟩
      · have h5I : ¬ (S.size : Int) < (k : Int) + (z : Int) := by omega
        have hF := fun wx : World => run_fromto (P := Tryz.prog) (w := wx) Tryz.underlying9 S .i64 .i64 k (k + z) (by omega) (by omega)
        have hT := fun wx : World => run_from (P := Tryz.prog) (w := wx) Tryz.underlying9 S .i64 (k + z) (by omega)
        rw [Nat.add_sub_cancel_left, ← hr] at hF
        rw [← List.drop_drop, ← hr] at hT
        simp only [Int.natCast_add] at hF hT
        have HU := hid (fun wx => show Calls Tryz.prog 113 #[.string ⟨(r.take z).toArray⟩, .int .i64 mm, .int .i64 lwb] wx (NumsOut (Bits.up (r.take z) mm lwb) (Bits.chk (r.take z) mm lwb) wx) from unpack_any ⟨(r.take z).toArray⟩ mm lwb wx)
        have HFR := hid (fun wx => show Calls Tryz.prog 125 #[.string ⟨(r.drop z).toArray⟩, .int .i64 n] wx (TextsOut (Front.rdl (r.drop z) n).1 (Front.rdl (r.drop z) n).2 wx) from fread_any ⟨(r.drop z).toArray⟩ n wx (by rw [str_size, List.length_drop]; omega))
        unfold NumsOut at HU
        unfold TextsOut at HFR
        have hup0 := Cod.rpk_lt mm (r.take z) lwb
        have hck := Cod.rbk_chk hrd hn64 hr.symm hz' h5
        have hfr := Cod.rbk_front hrd hn64 hr.symm hz' h5
        have hok := Cod.rbk_ok hrd hn64 hr.symm hz' h5
        rw [← hR, ← hlwb] at hck hfr hok
        have hft0 := fun h => Cod.rdl_fit (s := r.drop z) (many := n) h
        obtain ⟨C, hC⟩ : ∃ C, C = Bits.up (r.take z) mm lwb := ⟨_, rfl⟩
        obtain ⟨ec, hec⟩ : ∃ e, e = Bits.chk (r.take z) mm lwb := ⟨_, rfl⟩
        have hup : (∀ x ∈ C, x < 18446744073709551616) ∧ C.length ≤ 64 := by rw [hC]; exact hup0
        rw [← hC] at HU hok
        rw [← hec] at HU hck hfr hok
        obtain ⟨B, eb, hB⟩ : ∃ B eb, Front.rdl (r.drop z) n = (B, eb) := ⟨_, _, rfl⟩
        rw [hB] at HFR hfr hok hft0
        simp only at HFR hfr hok hft0
        obtain ⟨Y1, hY1⟩ : ∃ S : ByteArray, S = ⟨(r.take z).toArray⟩ := ⟨_, rfl⟩
        obtain ⟨Y2, hY2⟩ : ∃ S : ByteArray, S = ⟨(r.drop z).toArray⟩ := ⟨_, rfl⟩
        rw [← hY1] at HU hF
        rw [← hY2] at HFR hT
        obtain ⟨cn, hcn⟩ : ∃ q, q = C.length := ⟨_, rfl⟩
        rw [← hcn] at HU
        have hcnI : (cn : Int) ≤ 64 := by omega
        clear hrd hR hs hsz g1 g2 g3 g4 hn64 hlw hlwb hz hp hz' hpl hz8 hr hrl h5 hC hec hB hY1 hY2 hm hup0
        by_cases hcz : ec = 0
        · subst hcz
          obtain ⟨bn, hbn⟩ : ∃ q, q = B.length := ⟨_, rfl⟩
          rw [← hbn] at HFR
          by_cases hez : eb = 0
          · subst hez
            have HE := hid (hok rfl rfl)
            have hft := hft0 rfl
            have HTX := hid (fun A1 A2 c1 c2 wx (h1 : Rd wx A1 (txs B)) (h2 : Rd wx A2 (u64s C)) => show Calls Tryz.prog 160 #[.slice A1 B.length c1, .slice A2 C.length c2] wx (TextsOut (Dct.txt B C).1 (Dct.txt B C).2 wx) from dTexts_any B C A1 A2 B.length C.length c1 c2 wx rfl rfl h1 h2 hup.1 (by omega) (by omega))
            unfold TextsOut at HTX
            rw [← hbn, ← hcn] at HTX
            have hbnI : (bn : Int) ≤ 64 := by omega
            clear hck hfr hok hft0 hft hup hbn hcn
            go_enter Tryz.func124, Tryz.ntmps124
            go_wp2_with fail
            refine Calls.mono (CR.out _) ?_
            rintro e' w1 ⟨rfl, hx⟩
            have XP := hid hx
            clear hx
            go_wp2_with fail
            refine Calls.mono (HL.out _) ?_
            rintro e' w2 ⟨rfl, hx⟩
            replace XP := hid (XP.out.then hx)
            clear hx
            go_wp2_with fail
            refine Calls.mono (HU.out _) ?_
            rintro e' w3 ⟨A2, c2, rfl, hrc, hx⟩
            replace XP := hid (XP.out.then hx)
            have HRC := hid hrc
            clear hx hrc
            go_wp2_with fail
            refine Calls.mono (HFR.out _) ?_
            rintro e' w4 ⟨A1, c1, rfl, hrb, hx⟩
            replace XP := hid (XP.out.then hx)
            replace HRC := hid (HRC.out.keep hx)
            have HRB := hid hrb
            clear hx hrb
            go_wp2_with fail
            refine Calls.mono (HTX.out _ _ _ _ _ HRB.out HRC.out) ?_
            rintro e' w5 ⟨A3, c3, rfl, hrt, hx⟩
            replace XP := hid (XP.out.then hx)
            have HRT := hid hrt
            clear hx hrt
            go_wp2
            go_returns
            exact ⟨A3, c3, by rw [HE.out]; rfl, by rw [HE.out]; exact HRT.out, XP.out⟩
          · have HE := hid (hfr rfl hez)
            have h3 : ((eb : Int) != 0) = true := by rw [bne_iff_ne]; omega
            have h4 : ((eb : Int) == 0) = false := by rw [beq_eq_false_iff_ne]; omega
            clear hck hfr hok hft0 hup hez hbn hcn
            go_enter Tryz.func124, Tryz.ntmps124
            go_wp2_with fail
            refine Calls.mono (CR.out _) ?_
            rintro e' w1 ⟨rfl, hx⟩
            have XP := hid hx
            clear hx
            go_wp2_with fail
            refine Calls.mono (HL.out _) ?_
            rintro e' w2 ⟨rfl, hx⟩
            replace XP := hid (XP.out.then hx)
            clear hx
            go_wp2_with fail
            refine Calls.mono (HU.out _) ?_
            rintro e' w3 ⟨A2, c2, rfl, hrc, hx⟩
            replace XP := hid (XP.out.then hx)
            have HRC := hid hrc
            clear hx hrc
            go_wp2_with fail
            refine Calls.mono (HFR.out _) ?_
            rintro e' w4 ⟨A1, c1, rfl, hrb, hx⟩
            replace XP := hid (XP.out.then hx)
            replace HRC := hid (HRC.out.keep hx)
            have HRB := hid hrb
            clear hx hrb
            go_wp2
            go_returns
            exact ⟨none, 0, by rw [HE.out]; rfl, fun h => by rw [HE.out] at h; simp [txs] at h, XP.out⟩
        · have HE := hid (hck hcz)
          have h3 : ((ec : Int) != 0) = true := by rw [bne_iff_ne]; omega
          have h4 : ((ec : Int) == 0) = false := by rw [beq_eq_false_iff_ne]; omega
          clear hck hfr hok hft0 hup hcz hcn
          go_enter Tryz.func124, Tryz.ntmps124
          go_wp2_with fail
          refine Calls.mono (CR.out _) ?_
          rintro e' w1 ⟨rfl, hx⟩
          have XP := hid hx
          clear hx
          go_wp2_with fail
          refine Calls.mono (HL.out _) ?_
          rintro e' w2 ⟨rfl, hx⟩
          replace XP := hid (XP.out.then hx)
          clear hx
          go_wp2_with fail
          refine Calls.mono (HU.out _) ?_
          rintro e' w3 ⟨A2, c2, rfl, hrc, hx⟩
          replace XP := hid (XP.out.then hx)
          have HRC := hid hrc
          clear hx hrc
          go_wp2
          go_returns
          exact ⟨none, 0, by rw [HE.out]; rfl, fun h => by rw [HE.out] at h; simp [txs] at h, XP.out⟩
  · have HE := hid (show R = ([], er) by rw [hR, Cod.rbk_vary hrd he])
    have h3 : ((er : Int) != 0) = true := by rw [bne_iff_ne]; omega
    have h4 : ((er : Int) == 0) = false := by rw [beq_eq_false_iff_ne]; omega
    clear hrd hR hs hm he
    go_enter Tryz.func124, Tryz.ntmps124
    go_wp2_with fail
    refine Calls.mono (CR.out _) ?_
    rintro e' w1 ⟨rfl, hx⟩
    have XP := hid hx
    clear hx
    go_wp2
    go_returns
    exact ⟨none, 0, by rw [HE.out]; rfl, fun h => by rw [HE.out] at h; simp [txs] at h, XP.out⟩
set_option maxHeartbeats 1000000 in
theorem readTexts_any (s : ByteArray) (many : Int) (w : World) (hs : s.size ≤ 281474976710656) :
    Calls Tryz.prog 81 #[.string s, .int .i64 many] w (TextsOut (Cod.rtx s.data.toList many).1 (Cod.rtx s.data.toList many).2 w) := by
  have CW := hid (wayT_any s many w)
  rcases Cod.wy_cases 5 7 s.data.toList many with ⟨er, h1, h2, h3⟩ | ⟨c, t, h1, h2, h3, h4, h5, h6⟩
  · rw [Cod.rtx_err h2 h1]
    rw [h1] at CW
    have h4 : ((er : Int) != 0) = true := by rw [bne_iff_ne]; omega
    have h5 : ((er : Int) == 0) = false := by rw [beq_eq_false_iff_ne]; omega
    clear h1 h2 h3
    go_enter Tryz.func81, Tryz.ntmps81
    go_wp2_with fail
    refine Calls.mono CW.out ?_
    rintro e w1 ⟨rfl, hx⟩
    have HX := hid hx
    clear hx
    go_wp2
    go_returns
    exact ⟨none, 0, rfl, fun h => by simp [txs] at h, HX.out⟩
  · rw [h2] at CW
    have htl : t.length ≤ s.size := by have := congrArg List.length h1; rw [Array.length_toList] at this; have h8 : s.data.size = s.size := rfl; simp at this; omega
    obtain ⟨mm, rfl⟩ := Int.eq_ofNat_of_zero_le h5
    rw [h1, Cod.rtx_cons h5 h6, Int.toNat_natCast]
    obtain ⟨TT, hTT⟩ : ∃ S : ByteArray, S = ⟨t.toArray⟩ := ⟨_, rfl⟩
    have htt : t = TT.data.toList := by rw [hTT]
    have hts : TT.size ≤ s.size := by rw [hTT, str_size]; exact htl
    simp only [← hTT] at CW
    rw [htt]
    clear hTT htt htl h1 h2
    obtain h | h | h : c.toNat = 5 ∨ c.toNat = 6 ∨ c.toNat = 7 := by omega
    all_goals
      rw [h] at CW ⊢
      clear h h3 h4
    · simp (config := {decide := true}) only [if_true, if_false]
      have HC := hid (fun wx => readPlain_any TT mm wx (by omega) (by omega))
      clear hts hs
      go_enter Tryz.func81, Tryz.ntmps81
      go_wp2_with fail
      refine Calls.mono CW.out ?_
      rintro e w1 ⟨rfl, hx⟩
      have HX := hid hx
      clear hx
      go_wp2_with fail
      refine Calls.mono (HC.out _) ?_
      rintro e w2 ⟨A, cp, rfl, hrd, hx2⟩
      have HRD := hid hrd
      have HX2 := hid (HX.out.then hx2)
      clear hrd hx2
      go_wp2
      go_returns
      exact ⟨A, cp, rfl, HRD.out, HX2.out⟩
    · simp (config := {decide := true}) only [if_true, if_false]
      have HC := hid (fun wx => readBook_any TT mm wx (by omega) (by omega))
      clear hts hs
      go_enter Tryz.func81, Tryz.ntmps81
      go_wp2_with fail
      refine Calls.mono CW.out ?_
      rintro e w1 ⟨rfl, hx⟩
      have HX := hid hx
      clear hx
      go_wp2_with fail
      refine Calls.mono (HC.out _) ?_
      rintro e w2 ⟨A, cp, rfl, hrd, hx2⟩
      have HRD := hid hrd
      have HX2 := hid (HX.out.then hx2)
      clear hrd hx2
      go_wp2
      go_returns
      exact ⟨A, cp, rfl, HRD.out, HX2.out⟩
    · simp (config := {decide := true}) only [if_true, if_false]
      have HC := hid (fun wx => fread_any TT mm wx (by omega))
      clear hts hs
      go_enter Tryz.func81, Tryz.ntmps81
      go_wp2_with fail
      refine Calls.mono CW.out ?_
      rintro e w1 ⟨rfl, hx⟩
      have HX := hid hx
      clear hx
      go_wp2_with fail
      refine Calls.mono (HC.out _) ?_
      rintro e w2 ⟨A, cp, rfl, hrd, hx2⟩
      have HRD := hid hrd
      have HX2 := hid (HX.out.then hx2)
      clear hrd hx2
      go_wp2
      go_returns
      exact ⟨A, cp, rfl, HRD.out, HX2.out⟩
end Go.Proofs.YthgnipangcmanaaGreat
end
section
namespace Hy.Pat
theorem add_bd (b : Nat) (M : List Nat) : (add b M).2 ≤ 8 ∧ (add b M).1.length ≤ M.length := by
  unfold add
  split <;> simp
theorem rdP_both (s : List UInt8) (many : Int) : (rdP s many).2 ≤ 8 ∧ (rdP s many).1.length ≤ 64 := by
  by_cases h1 : many < 0
  · rw [rdP_neg h1]; simp
  by_cases h2 : 64 < many
  · rw [rdP_many h2]; simp
  obtain ⟨m, rfl⟩ : ∃ m : Nat, many = (m : Int) := ⟨many.toNat, by omega⟩
  have hb := fr_bd s m
  by_cases h3 : (fr s m).1 = 0
  · rw [rdP_ok (by omega) h3]
    have h4 := add_bd (fr s m).2.1 (fr s m).2.2
    have h5 := (hb.2.2 h3).1
    omega
  · rw [rdP_err (by omega) h3]
    have := hb.1
    refine ⟨?_, by simp⟩
    show (fr s m).1 ≤ 8
    omega
theorem rdP_len (s : List UInt8) (many : Int) : (rdP s many).1.length ≤ 64 := (rdP_both s many).2
end Hy.Pat
end
section
namespace Hy.Cod
open Go
theorem rpl_len : ∀ (q : Nat) (s : Tx) (o : List Tx), (rpl q s o).1.length ≤ o.length + q
  | 0, s, o => by rw [rpl]; split <;> simp
  | q + 1, s, o => by
    rw [rpl]
    split
    · simp
    · have := rpl_len q (one s).2.1 (o ++ [(one s).1])
      rw [List.length_append] at this
      simp only [List.length_cons, List.length_nil] at this
      omega
theorem dtx_len (b : List Tx) (c : List Nat) : (Dct.txt b c).1.length ≤ 64 := by
  unfold Dct.txt
  repeat' split
  all_goals first | (simp; done) | (rw [List.length_map]; omega)
theorem rbk_len (s : Tx) (many : Nat) : (rbk s many).1.length ≤ 64 := by
  unfold rbk
  repeat' split
  all_goals first | (simp; done) | exact dtx_len _ _
theorem frd_len (s : Tx) (many : Int) : (Front.rdl s many).1.length ≤ 64 := by
  by_cases h : (Front.rdl s many).2 = 0
  · exact (rdl_fit h).1
  · rw [Front.rdl_err h]; simp
theorem rtx_len (s : Tx) (many : Int) : (rtx s many).1.length ≤ 64 := by
  by_cases h1 : many < 0
  · rw [rtx_neg h1]; simp
  · by_cases h2 : 64 < many
    · rw [rtx_many h2]; simp
    · cases s with
      | nil => rw [rtx_nil (by omega) (by omega)]; simp
      | cons c t =>
        rw [rtx_cons (by omega) (by omega)]
        repeat' split
        · have := rpl_len many.toNat t []; simp at this; omega
        · exact rbk_len _ _
        · exact frd_len _ _
        · simp
theorem wde_len (rd : Tx → Nat → List Nat × Nat) (h : ∀ t k, (rd t k).1.length ≤ 64) (s : Tx) : (wde rd s).1.length ≤ 64 := by
  unfold wde
  cases s with
  | nil => simp
  | cons c t =>
    simp only
    repeat' split
    all_goals first | (simp; done) | exact h _ _
theorem rnm_len (s : Tx) (many : Int) : (rnm s many).1.length ≤ 64 := by
  by_cases h1 : many < 0
  · rw [rnm_neg h1]; simp
  · by_cases h2 : 64 < many
    · rw [rnm_many h2]; simp
    · cases s with
      | nil => rw [rnm_nil (by omega) (by omega)]; simp
      | cons c t =>
        rw [rnm_cons (by omega) (by omega)]
        repeat' split
        · exact wde_len _ (fun t k => (rpk_lt many t k).2) _
        · exact wde_len _ (fun t k => (rhy_lt many t k).2) _
        · exact Dlt.rds_len _ _
        · exact Pat.rdP_len _ _
        · simp
end Hy.Cod
end
section
namespace Hy.Pge
open Go Hy.Cel
theorem map_take {α : Type} (f : α → Cel) (l : List α) (k : Nat) (h : k < l.length) : (l.map f).take (k + 1) = (l.map f).take k ++ [f l[k]] := by
  rw [List.take_succ_eq_append_getElem (by rw [List.length_map]; exact h), List.getElem_map]
end Hy.Pge
namespace Go.Proofs.YthgnipangcmanaaGreat
open Go.RowKit Hy
def DenseOut (R : List Cel × Nat) (w : World) (e : Ending) (w' : World) : Prop :=
  ∃ B n c, e = .returned (.tuple #[.slice B n c, .int .i64 (R.2 : Nat)]) ∧ Ext w w' ∧ n = R.1.length ∧ n ≤ c ∧ Rd w' B (cls R.1)
set_option maxRecDepth 100000 in
set_option maxHeartbeats 3200000 in
theorem dense_any (kd th : Int) (kind there : Nat) (S : ByteArray) (g : Nat) (w : World) (hB : Blk w g 81 #[.string S]) (hs : S.size ≤ 281474976710656) (hkd : kd = (kind : Nat)) (hth : th = (there : Nat)) (hk : kind = 1 ∨ kind = 2) (h64 : there ≤ 64) :
    Calls Tryz.prog 55 #[.pointer (some ⟨g, 0, none⟩), .int .i64 kd, .int .i64 th] w (DenseOut (Pge.dn kind there S.data.toList) w) := by
  have hc0 := hB.cell 0
  have hf0 := hB.frozen 0
  have hlt0 := hB.lt
  by_cases h0 : there = 0
  · subst h0
    obtain rfl : th = 0 := by omega
    by_cases hnil : S.data.toList = []
    · have HE := hid (Pge.dn_nil kind)
      rw [hnil]
      have e0 : S = ⟨#[]⟩ := by apply ByteArray.ext; exact Array.toList_eq_nil_iff.1 hnil
      subst e0
      clear hB hs hkd hth hk h64 hnil
      go_enter Tryz.func55, Tryz.ntmps55
      go_wp2
      go_returns
      exact ⟨none, 0, 0, by rw [HE.out]; rfl, ext_refl w, by rw [HE.out]; rfl, Nat.le_refl _, by rw [HE.out]; exact fun h => absurd h (by simp [cls])⟩
    · have HE := hid (Pge.dn_form kind hnil)
      have e1 : S.toList.isEmpty = false := by
        obtain ⟨a⟩ := S
        rw [ByteArray.toList_mk]
        simpa using hnil
      have e2 : (S.toList == []) = false := by
        rw [beq_eq_false_iff_ne]
        intro h
        rw [h] at e1
        cases e1
      clear hB hs hkd hth hk h64 hnil
      go_enter Tryz.func55, Tryz.ntmps55
      go_wp2
      go_returns
      exact ⟨none, 0, 0, by rw [HE.out]; rfl, ext_refl w, by rw [HE.out]; rfl, Nat.le_refl _, by rw [HE.out]; exact fun h => absurd h (by simp [cls])⟩
  · have hthn : (th == 0) = false := by rw [beq_eq_false_iff_ne]; omega
    rcases hk with rfl | rfl
    · obtain rfl : kd = 1 := by omega
      have HC := hid (fun wx => readNumbers_any S (there : Nat) wx hs)
      unfold NumsOut at HC
      have HE := hid (Pge.dn_num h0 S.data.toList)
      have hlen := Cod.rnm_len S.data.toList (there : Nat)
      obtain ⟨L, hL⟩ : ∃ L, L = (Cod.rnm S.data.toList (there : Nat)).1 := ⟨_, rfl⟩
      obtain ⟨er, her⟩ : ∃ er, er = (Cod.rnm S.data.toList (there : Nat)).2 := ⟨_, rfl⟩
      rw [← hL, ← her] at HE
      simp only [← hL, ← her] at HC
      rw [← hL] at hlen
      rw [← hth] at HC
      obtain ⟨m, hm⟩ : ∃ m, m = L.length := ⟨_, rfl⟩
      rw [← hm] at HC hlen
      have hmI : (m : Int) ≤ 64 := by omega
      have HM := hid hm
      have HML := hid hlen
      clear hB hs hkd hth h64 hL her hm hlen h0
      go_enter Tryz.func55, Tryz.ntmps55
      go_wp2_with fail
      refine Calls.mono (HC.out _) ?_
      rintro e w1 ⟨A, cap, rfl, hrd, hx⟩
      have RL := hid hrd
      have X0 := hid hx
      clear hrd hx hc0 hf0
      go_wp2
      go_loopw [6, 11, 42] (fun v _ c wr => ∃ k : Nat, k ≤ m ∧ c = .int .i64 k ∧ Hid (wr.ownsRow w1.heap.size 48 3 v k (cls ((L.map Pge.nCel).take k))) ∧ Hid (Ext w1 wr)) (fun _ _ c _ => m - (intOf c).toNat)
      case atStart => exact ⟨0, Nat.zero_le _, rfl, hid (World.ownsRow_nil _ _ _ _), hid (ext_refl _)⟩
      case round =>
        obtain ⟨k, hk, rfl, HOWN, HX⟩ := hrel
        by_cases hlt : k < m
        · have hkl : k < L.length := by have := HM.out; omega
          obtain ⟨b1, o1, eA, l1, c1⟩ := RL.out.nums k hkl
          subst eA
          have d0 := (HX.out.cell (p := ⟨b1, o1 + k, none⟩) l1).trans (c1 k hkl)
          clear l1 c1
          have HT := hid (Pge.map_take Pge.nCel L k hkl)
          obtain ⟨x, hx⟩ : ∃ x, x = L[k] := ⟨_, rfl⟩
          rw [← hx] at HT d0
          have hltI : (k : Int) < (m : Int) := by omega
          have HLT := hid hlt
          clear hkl hx hk hlt
          generalize (L.map Pge.nCel).take k = D at *
          go_wp2_with (at_builtin; go_loud (refine wpList_app rfl (.tmp 46) (.tmp 50) rowCl rfl _ k (cls D) rfl (own_ext HOWN.out (Ext.new (ext_refl _) _)) _ 1 (cls [Pge.nCel x]) rfl (Src.rd Tryz.underlying22 _ 1 1 _ rfl (rd_lit rfl rfl) (cls_one _) (fun h => by cases h)) (by have := HML.out; have := HLT.out; simp only [maxLen]; omega) (by have := HML.out; have := HLT.out; omega) (by have := HX.out.size; simp; omega) ?_; intro v' w5 hown5 hgrow hat hbel))
          go_roundw
          case rel => exact ⟨k + 1, HLT.out, by go_num, hid (by rw [HT.out, cls_app]; exact hown5), hid ((Ext.new HX.out _).trans hbel)⟩
          case measure => simp [intOf]; have := HLT.out; omega
        · obtain rfl : k = m := by omega
          obtain ⟨C, c, rfl, hrd, hB2, hc, hcm⟩ := Rd.owned HOWN.out
          have HRD := hid hrd
          have HCC := hid hc
          have XE := hid (X0.out.then HX.out)
          clear hrd hB2 hc hcm hlt hk
          go_wp2
          go_returns
          have e : (L.map Pge.nCel).take k = L.map Pge.nCel := List.take_of_length_le (by rw [List.length_map, HM.out]; exact Nat.le_refl _)
          rw [e] at HRD
          exact ⟨C, k, c, by rw [HE.out]; rfl, XE.out, by rw [HE.out, List.length_map]; exact HM.out, HCC.out, by rw [HE.out]; exact HRD.out⟩
    · obtain rfl : kd = 2 := by omega
      have HC := hid (fun wx => readTexts_any S (there : Nat) wx hs)
      unfold TextsOut at HC
      have HE := hid (Pge.dn_txt h0 S.data.toList)
      have hlen := Cod.rtx_len S.data.toList (there : Nat)
      obtain ⟨L, hL⟩ : ∃ L, L = (Cod.rtx S.data.toList (there : Nat)).1 := ⟨_, rfl⟩
      obtain ⟨er, her⟩ : ∃ er, er = (Cod.rtx S.data.toList (there : Nat)).2 := ⟨_, rfl⟩
      rw [← hL, ← her] at HE
      simp only [← hL, ← her] at HC
      rw [← hL] at hlen
      rw [← hth] at HC
      obtain ⟨m, hm⟩ : ∃ m, m = L.length := ⟨_, rfl⟩
      rw [← hm] at HC hlen
      have hmI : (m : Int) ≤ 64 := by omega
      have HM := hid hm
      have HML := hid hlen
      clear hB hs hkd hth h64 hL her hm hlen h0
      go_enter Tryz.func55, Tryz.ntmps55
      go_wp2_with fail
      refine Calls.mono (HC.out _) ?_
      rintro e w1 ⟨A, cap, rfl, hrd, hx⟩
      have RL := hid hrd
      have X0 := hid hx
      clear hrd hx hc0 hf0
      go_wp2
      go_loopw [6, 14, 66] (fun v _ c wr => ∃ k : Nat, k ≤ m ∧ c = .int .i64 k ∧ Hid (wr.ownsRow w1.heap.size 48 3 v k (cls ((L.map Pge.tCel).take k))) ∧ Hid (Ext w1 wr)) (fun _ _ c _ => m - (intOf c).toNat)
      case atStart => exact ⟨0, Nat.zero_le _, rfl, hid (World.ownsRow_nil _ _ _ _), hid (ext_refl _)⟩
      case round =>
        obtain ⟨k, hk, rfl, HOWN, HX⟩ := hrel
        by_cases hlt : k < m
        · have hkl : k < L.length := by have := HM.out; omega
          obtain ⟨b1, o1, eA, l1, c1⟩ := RL.out.texts k hkl
          subst eA
          have d0 := (HX.out.cell (p := ⟨b1, o1 + k, none⟩) l1).trans (c1 k hkl)
          clear l1 c1
          have HT := hid (Pge.map_take Pge.tCel L k hkl)
          obtain ⟨x, hx⟩ : ∃ x, x = L[k] := ⟨_, rfl⟩
          rw [← hx] at HT d0
          have hltI : (k : Int) < (m : Int) := by omega
          have HLT := hid hlt
          clear hkl hx hk hlt
          generalize (L.map Pge.tCel).take k = D at *
          go_wp2_with (at_builtin; go_loud (refine wpList_app rfl (.tmp 70) (.tmp 74) rowCl rfl _ k (cls D) rfl (own_ext HOWN.out (Ext.new (ext_refl _) _)) _ 1 (cls [Pge.tCel x]) rfl (Src.rd Tryz.underlying22 _ 1 1 _ rfl (rd_lit rfl rfl) (cls_one _) (fun h => by cases h)) (by have := HML.out; have := HLT.out; simp only [maxLen]; omega) (by have := HML.out; have := HLT.out; omega) (by have := HX.out.size; simp; omega) ?_; intro v' w5 hown5 hgrow hat hbel))
          go_roundw
          case rel => exact ⟨k + 1, HLT.out, by go_num, hid (by rw [HT.out, cls_app]; exact hown5), hid ((Ext.new HX.out _).trans hbel)⟩
          case measure => simp [intOf]; have := HLT.out; omega
        · obtain rfl : k = m := by omega
          obtain ⟨C, c, rfl, hrd, hB2, hc, hcm⟩ := Rd.owned HOWN.out
          have HRD := hid hrd
          have HCC := hid hc
          have XE := hid (X0.out.then HX.out)
          clear hrd hB2 hc hcm hlt hk
          go_wp2
          go_returns
          have e : (L.map Pge.tCel).take k = L.map Pge.tCel := List.take_of_length_le (by rw [List.length_map, HM.out]; exact Nat.le_refl _)
          rw [e] at HRD
          exact ⟨C, k, c, by rw [HE.out]; rfl, XE.out, by rw [HE.out, List.length_map]; exact HM.out, HCC.out, by rw [HE.out]; exact HRD.out⟩
end Go.Proofs.YthgnipangcmanaaGreat
end
