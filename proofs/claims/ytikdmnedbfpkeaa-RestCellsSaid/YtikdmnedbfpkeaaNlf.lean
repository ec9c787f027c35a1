/- Split: walk. -/
import Derived.Test.YtikdmnedbfpkeaaNle
namespace Hy
open Go Go.RowKit
theorem Blk.grown {w w' : World} {g : Nat} {t : TypeId} {cs : Array Value} {row : Option Nat} (h : Blk w g t cs) (hg : w.grownBy w' row) (hne : row ≠ some g) : Blk w' g t cs := (hg.block g h.lt (Ne.symm hne)).trans h
end Hy
namespace Go.Proofs.Ytikdmnedbfpkeaa
open Go.RowKit Hy
set_option maxHeartbeats 2000000 in
theorem split_yes (kind : Int) (l : List Cel) (A : Option Addr) (n cap : Nat) (w : World) (hn : l.length = n) (hr : Rd w A (cls l)) (hj : Cel.cchk kind l = 0) :
    Calls Try.prog 22 #[.int .i64 kind, .slice A n cap] w fun e w' => ∃ C c D d, e = .returned (.tuple #[.slice C n c, .slice D (Cel.dense l).length d, .int .i64 0]) ∧ Rd w' C (bls (thereL l)) ∧ Rd w' D (cls (Cel.dense l)) ∧ n ≤ c ∧ (Cel.dense l).length ≤ d ∧ Ext w w' := by
  have hn64 : n ≤ 64 := by rw [← hn]; exact (Cel.cchk_iff.1 hj).2.1
  have HC := hid (check_any kind l A n cap w hn hr (by omega))
  rw [hj] at HC
  have HN := hid hn
  have HA := hid hr
  have HL := hid hn64
  have hnI : (n : Int) ≤ 64 := by omega
  clear hn hr hj hn64
  go_enter Try.func22, Try.ntmps22
  go_wp2_with fail
  refine Calls.mono HC.out ?_
  rintro e w0 ⟨rfl, hx⟩
  have X0 := hid hx
  clear hx
  go_wp2
  go_loopw [8, 9, 20] (fun x y c wr => ∃ k : Nat, k ≤ n ∧ c = .int .i64 k ∧ wr.ownsRow w0.heap.size 4 1 x k (bls (thereL (l.take k))) ∧ wr.ownsRow w0.heap.size 25 3 y (Cel.dense (l.take k)).length (cls (Cel.dense (l.take k))) ∧ Ext w0 wr) (fun _ _ c _ => n - (intOf c).toNat)
  case atStart => exact ⟨0, Nat.zero_le _, rfl, World.ownsRow_nil _ _ _ _, World.ownsRow_nil _ _ _ _, ext_refl _⟩
  case round =>
    obtain ⟨k, hk, rfl, hown, hown2, X⟩ := hrel
    by_cases hlt : k < n
    · have hka : k < l.length := by rw [HN.out]; exact hlt
      obtain ⟨b1, o1, e1, l1, c1⟩ := HA.out.cels k hka
      subst e1
      have XX := X0.out.then X
      have d0 := (XX.cell (p := ⟨b1, o1 + k * 3, none⟩) l1).trans (c1 k hka).1
      have d1 := (XX.cell (p := ⟨b1, o1 + k * 3 + 1, none⟩) l1).trans (c1 k hka).2.1
      have d2 := (XX.cell (p := ⟨b1, o1 + k * 3 + 2, none⟩) l1).trans (c1 k hka).2.2
      have HE := hid (thereL_take l k hka)
      have HY := hid (Cel.dense_yes l k hka)
      have HNO := hid (Cel.dense_no l k hka)
      have hDL := Cel.dense_len (l.take k)
      have HDL := hid (show (Cel.dense (l.take k)).length ≤ n by rw [List.length_take] at hDL; omega)
      have HO := hid hown
      have HO2 := hid hown2
      have HX := hid X
      generalize l[k] = c at *
      generalize thereL (l.take k) = M at *
      generalize Cel.dense (l.take k) = D at *
      obtain ⟨kk, nn, ss⟩ := c
      have HT := hid (there_any (kk, nn, ss))
      simp only at d0 d1 d2 HE HY HNO
      have HG1 := hid (own_not hown (Nat.le_refl _))
      have BZ := hid (Blk.new wr 25 #[.int .i64 kk, .int .u64 (nn : Nat), .string ss])
      replace HO := hid (own_ext HO.out ((ext_refl wr).new (.cells #[.int .i64 kk, .int .u64 (nn : Nat), .string ss] 25)))
      replace HO2 := hid (own_ext HO2.out ((ext_refl wr).new (.cells #[.int .i64 kk, .int .u64 (nn : Nat), .string ss] 25)))
      replace HX := hid (HX.out.new (.cells #[.int .i64 kk, .int .u64 (nn : Nat), .string ss] 25))
      obtain ⟨q, hq⟩ : ∃ q, q = decide (kk ≠ 0) := ⟨_, rfl⟩
      simp only [← hq] at HE HT
      clear c1 hka hown hown2 hDL X XX l1
      go_wp2_with fail
      refine Calls.mono (HT.out _) ?_
      rintro e w1 ⟨rfl, hx⟩
      replace BZ := hid (BZ.out.keep hx)
      replace HO := hid (own_ext HO.out hx)
      replace HO2 := hid (own_ext HO2.out hx)
      replace HX := hid (HX.out.then hx)
      clear hx d0 d1 d2
      obtain ⟨z0, z1, z2⟩ := BZ.out.c3
      cases q with
      | false =>
        have hk0 : kk = 0 := by simpa using hq.symm
        have HE2 := hid (HNO.out hk0)
        clear hq hk0
        go_wp2_with (at_builtin; go_loud (refine wpList_app rfl (.tmp 24) (.tmp 27) rowBl rfl _ k (bls M) rfl (own_ext HO.out (Ext.new (ext_refl _) _)) _ 1 (bls [false]) rfl (Src.rd Try.underlying42 _ 1 1 _ rfl (rd_lit rfl rfl) (bls_one _) (fun h => by cases h)) (by have := HL.out; simp only [maxLen]; omega) (by have := HL.out; omega) (by have := HX.out.size; simp; omega) ?_; intro v' w5 hown5 hgrow hat hbel; have HO5 := hid hown5; have HP5 := hid ((own_ext HO2.out (Ext.new (ext_refl _) _)).kept hgrow (own_ne HO2.out HO.out (by decide))); replace HX : Hid (Ext w0 _) := hid ((Ext.new HX.out _).trans hbel); have BZ5 := hid ((BZ.out.alloc _).grown hgrow HG1.out); clear hown5 hgrow hat hbel z0 z1 z2; obtain ⟨z0, z1, z2⟩ := BZ5.out.c3))
        refine Calls.mono (HT.out _) ?_
        rintro e w6 ⟨rfl, hx⟩
        replace HX := hid (HX.out.then hx)
        replace HO5 := hid (own_ext HO5.out hx)
        replace HP5 := hid (own_ext HP5.out hx)
        clear hx z0 z1 z2
        go_wp2
        go_roundw
        case rel => exact ⟨k + 1, by omega, by go_num, by rw [HE.out, bls_app]; exact HO5.out, by rw [HE2.out]; exact HP5.out, HX.out⟩
        case measure => simp [intOf]; omega
      | true =>
        have hk0 : kk ≠ 0 := by simpa using hq.symm
        have HE2 := hid (HY.out hk0)
        clear hq hk0
        go_wp2_with (at_builtin; go_loud (refine wpList_app rfl (.tmp 24) (.tmp 27) rowBl rfl _ k (bls M) rfl (own_ext HO.out (Ext.new (ext_refl _) _)) _ 1 (bls [true]) rfl (Src.rd Try.underlying42 _ 1 1 _ rfl (rd_lit rfl rfl) (bls_one _) (fun h => by cases h)) (by have := HL.out; simp only [maxLen]; omega) (by have := HL.out; omega) (by have := HX.out.size; simp; omega) ?_; intro v' w5 hown5 hgrow hat hbel; have HO5 := hid hown5; have HP5 := hid ((own_ext HO2.out (Ext.new (ext_refl _) _)).kept hgrow (own_ne HO2.out HO.out (by decide))); replace HX : Hid (Ext w0 _) := hid ((Ext.new HX.out _).trans hbel); have BZ5 := hid ((BZ.out.alloc _).grown hgrow HG1.out); clear hown5 hgrow hat hbel z0 z1 z2; obtain ⟨z0, z1, z2⟩ := BZ5.out.c3))
        refine Calls.mono (HT.out _) ?_
        rintro e w6 ⟨rfl, hx⟩
        replace HX := hid (HX.out.then hx)
        replace HO5 := hid (own_ext HO5.out hx)
        replace HP5 := hid (own_ext HP5.out hx)
        replace BZ5 := hid (BZ5.out.keep hx)
        clear hx z0 z1 z2
        obtain ⟨z0, z1, z2⟩ := BZ5.out.c3
        go_wp2_with (at_builtin; go_loud (refine wpList_app rfl (.tmp 31) (.tmp 33) rowCl rfl _ D.length (cls D) rfl (own_ext HP5.out (Ext.new (ext_refl _) _)) _ 1 (cls [(kk, nn, ss)]) rfl (Src.rd Try.underlying22 _ 1 1 _ rfl (rd_lit rfl rfl) (cls_one _) (fun h => by cases h)) (by have := HL.out; have := HDL.out; simp only [maxLen]; omega) (by have := HL.out; have := HDL.out; omega) (by have := HX.out.size; simp; omega) ?_; intro v7 w7 hown7 hgrow hat hbel; have HP7 := hid hown7; have HO7 := hid ((own_ext HO5.out (Ext.new (ext_refl _) _)).kept hgrow (own_ne HO5.out HP5.out (by decide))); replace HX : Hid (Ext w0 _) := hid ((Ext.new HX.out _).trans hbel); clear hown7 hgrow hat hbel z0 z1 z2))
        go_roundw
        case rel => exact ⟨k + 1, by omega, by go_num, by rw [HE.out, bls_app]; exact HO7.out, by rw [HE2.out, List.length_append, cls_app]; exact HP7.out, HX.out⟩
        case measure => simp [intOf]; omega
    · obtain rfl : k = n := by omega
      obtain ⟨B, c, rfl, hrd, hB, hc, hcm⟩ := Rd.owned hown
      obtain ⟨B2, c2, rfl, hrd2, hB2, hc2, hcm2⟩ := Rd.owned hown2
      have HRD := hid hrd
      have HRD2 := hid hrd2
      have HC1 := hid hc
      have HC2 := hid hc2
      have HX := hid (X0.out.then X)
      clear hown hrd hB hc hcm hown2 hrd2 hB2 hc2 hcm2 X
      go_wp2
      go_returns
      have e : l.take k = l := List.take_of_length_le (by rw [HN.out]; exact Nat.le_refl _)
      rw [e] at HRD HRD2 HC2
      exact ⟨B, c, B2, c2, by rw [e]; rfl, HRD.out, HRD2.out, HC1.out, HC2.out, HX.out⟩
theorem split_no (kind : Int) (A : Option Addr) (n cap c : Nat) (w : World) (e2 : ((c : Int) != 0) = true)
    (HC : Hid (Calls Try.prog 24 #[.int .i64 kind, .slice A n cap] w fun e w' => e = .returned (.int .i64 (c : Nat)) ∧ Ext w w')) :
    Calls Try.prog 22 #[.int .i64 kind, .slice A n cap] w fun e w' => e = .returned (.tuple #[.slice none 0 0, .slice none 0 0, .int .i64 (c : Nat)]) ∧ Ext w w' := by
  go_enter Try.func22, Try.ntmps22
  go_wp2_with fail
  refine Calls.mono HC.out ?_
  rintro e w0 ⟨rfl, hx⟩
  have X0 := hid hx
  clear hx
  go_wp2
  go_returns
  exact ⟨rfl, X0.out⟩
/-- what Split answers -/
def SplitOut (kind : Int) (l : List Cel) (w : World) (e : Ending) (w' : World) : Prop :=
  ∃ C n c D m d, e = .returned (.tuple #[.slice C n c, .slice D m d, .int .i64 (Cel.cchk kind l : Nat)]) ∧ Ext w w' ∧ n ≤ c ∧ m ≤ d ∧
    ((Cel.cchk kind l = 0 ∧ n = l.length ∧ m = (Cel.dense l).length ∧ Rd w' C (bls (thereL l)) ∧ Rd w' D (cls (Cel.dense l))) ∨ (Cel.cchk kind l ≠ 0 ∧ n = 0 ∧ m = 0))
theorem split_any (kind : Int) (l : List Cel) (A : Option Addr) (n cap : Nat) (w : World) (hn : l.length = n) (hr : Rd w A (cls l)) (hnl : n ≤ 140737488355328) :
    Calls Try.prog 22 #[.int .i64 kind, .slice A n cap] w (SplitOut kind l w) := by
  by_cases hj : Cel.cchk kind l = 0
  · refine (split_yes kind l A n cap w hn hr hj).mono ?_
    rintro e w' ⟨C, c, D, d, rfl, h1, h2, h3, h4, h5⟩
    exact ⟨C, n, c, D, _, d, by rw [hj]; rfl, h5, h3, h4, .inl ⟨hj, hn.symm, rfl, h1, h2⟩⟩
  · refine (split_no kind A n cap (Cel.cchk kind l) w (by rw [bne_iff_ne]; omega) (hid (check_any kind l A n cap w hn hr hnl))).mono ?_
    rintro e w' ⟨rfl, h⟩
    exact ⟨none, 0, 0, none, 0, 0, rfl, h, Nat.le_refl _, Nat.le_refl _, .inr ⟨hj, rfl, rfl⟩⟩
end Go.Proofs.Ytikdmnedbfpkeaa
