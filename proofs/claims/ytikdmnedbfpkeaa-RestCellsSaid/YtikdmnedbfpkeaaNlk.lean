/- Split and Join once more: what they answer is memory of their own. -/
import Derived.Test.YtikdmnedbfpkeaaNlj
namespace Hy
open Go Go.RowKit
theorem own_base {w : World} {base base' : Nat} {e : TypeId} {size : Nat} {v : Value} {n : Nat} {xs : List Value} (h : w.ownsRow base e size v n xs) (hb : base' ≤ base) : w.ownsRow base' e size v n xs := by
  refine ⟨h.1, ?_⟩
  rcases h.2 with h | ⟨g, cap, cur, hv, hbg, r⟩
  · exact .inl h
  · exact .inr ⟨g, cap, cur, hv, Nat.le_trans hb hbg, r⟩
end Hy
namespace Go.Proofs.Ytikdmnedbfpkeaa
open Go.RowKit Hy
set_option maxHeartbeats 2000000 in
theorem split_own (kind : Int) (l : List Cel) (A : Option Addr) (n cap : Nat) (w : World) (hn : l.length = n) (hr : Rd w A (cls l)) (hj : Cel.cchk kind l = 0) :
    Calls Try.prog 22 #[.int .i64 kind, .slice A n cap] w fun e w' => ∃ v1 v2, e = .returned (.tuple #[v1, v2, .int .i64 0]) ∧ w'.ownsRow w.heap.size 4 1 v1 n (bls (thereL l)) ∧ w'.ownsRow w.heap.size 25 3 v2 (Cel.dense l).length (cls (Cel.dense l)) ∧ Ext w w' := by
  have hn64 : n ≤ 64 := by rw [← hn]; exact (Cel.cchk_iff.1 hj).2.1
  have HC := hid (check_any kind l A n cap w hn hr (by omega))
  rw [hj] at HC
  have HN := hid hn
  have HA := hid hr
  have HL := hid hn64
  have hnI : (n : Int) ≤ 64 := by omega
  clear hn hr hj hn64
  go_enter Try.func22, Try.ntmps22
  go_wp2_with fail
  refine Calls.mono HC.out ?_
  rintro e w0 ⟨rfl, hx⟩
  have X0 := hid hx
  clear hx
  go_wp2
  go_loopw [8, 9, 20] (fun x y c wr => ∃ k : Nat, k ≤ n ∧ c = .int .i64 k ∧ wr.ownsRow w0.heap.size 4 1 x k (bls (thereL (l.take k))) ∧ wr.ownsRow w0.heap.size 25 3 y (Cel.dense (l.take k)).length (cls (Cel.dense (l.take k))) ∧ Ext w0 wr) (fun _ _ c _ => n - (intOf c).toNat)
  case atStart => exact ⟨0, Nat.zero_le _, rfl, World.ownsRow_nil _ _ _ _, World.ownsRow_nil _ _ _ _, ext_refl _⟩
  case round =>
    obtain ⟨k, hk, rfl, hown, hown2, X⟩ := hrel
    by_cases hlt : k < n
    · have hka : k < l.length := by rw [HN.out]; exact hlt
      obtain ⟨b1, o1, e1, l1, c1⟩ := HA.out.cels k hka
      subst e1
      have XX := X0.out.then X
      have d0 := (XX.cell (p := ⟨b1, o1 + k * 3, none⟩) l1).trans (c1 k hka).1
      have d1 := (XX.cell (p := ⟨b1, o1 + k * 3 + 1, none⟩) l1).trans (c1 k hka).2.1
      have d2 := (XX.cell (p := ⟨b1, o1 + k * 3 + 2, none⟩) l1).trans (c1 k hka).2.2
      have HE := hid (thereL_take l k hka)
      have HY := hid (Cel.dense_yes l k hka)
      have HNO := hid (Cel.dense_no l k hka)
      have hDL := Cel.dense_len (l.take k)
      have HDL := hid (show (Cel.dense (l.take k)).length ≤ n by rw [List.length_take] at hDL; omega)
      have HO := hid hown
      have HO2 := hid hown2
      have HX := hid X
      generalize l[k] = c at *
      generalize thereL (l.take k) = M at *
      generalize Cel.dense (l.take k) = D at *
      obtain ⟨kk, nn, ss⟩ := c
      have HT := hid (there_any (kk, nn, ss))
      simp only at d0 d1 d2 HE HY HNO
      have HG1 := hid (own_not hown (Nat.le_refl _))
      have BZ := hid (Blk.new wr 25 #[.int .i64 kk, .int .u64 (nn : Nat), .string ss])
      replace HO := hid (own_ext HO.out ((ext_refl wr).new (.cells #[.int .i64 kk, .int .u64 (nn : Nat), .string ss] 25)))
      replace HO2 := hid (own_ext HO2.out ((ext_refl wr).new (.cells #[.int .i64 kk, .int .u64 (nn : Nat), .string ss] 25)))
      replace HX := hid (HX.out.new (.cells #[.int .i64 kk, .int .u64 (nn : Nat), .string ss] 25))
      obtain ⟨q, hq⟩ : ∃ q, q = decide (kk ≠ 0) := ⟨_, rfl⟩
      simp only [← hq] at HE HT
      clear c1 hka hown hown2 hDL X XX l1
      go_wp2_with fail
      refine Calls.mono (HT.out _) ?_
      rintro e w1 ⟨rfl, hx⟩
      replace BZ := hid (BZ.out.keep hx)
      replace HO := hid (own_ext HO.out hx)
      replace HO2 := hid (own_ext HO2.out hx)
      replace HX := hid (HX.out.then hx)
      clear hx d0 d1 d2
      obtain ⟨z0, z1, z2⟩ := BZ.out.c3
      cases q with
      | false =>
        have hk0 : kk = 0 := by simpa using hq.symm
        have HE2 := hid (HNO.out hk0)
        clear hq hk0
        go_wp2_with (at_builtin; go_loud (refine wpList_app rfl (.tmp 24) (.tmp 27) rowBl rfl _ k (bls M) rfl (own_ext HO.out (Ext.new (ext_refl _) _)) _ 1 (bls [false]) rfl (Src.rd Try.underlying42 _ 1 1 _ rfl (rd_lit rfl rfl) (bls_one _) (fun h => by cases h)) (by have := HL.out; simp only [maxLen]; omega) (by have := HL.out; omega) (by have := HX.out.size; simp; omega) ?_; intro v' w5 hown5 hgrow hat hbel; have HO5 := hid hown5; have HP5 := hid ((own_ext HO2.out (Ext.new (ext_refl _) _)).kept hgrow (own_ne HO2.out HO.out (by decide))); replace HX : Hid (Ext w0 _) := hid ((Ext.new HX.out _).trans hbel); have BZ5 := hid ((BZ.out.alloc _).grown hgrow HG1.out); clear hown5 hgrow hat hbel z0 z1 z2; obtain ⟨z0, z1, z2⟩ := BZ5.out.c3))
        refine Calls.mono (HT.out _) ?_
        rintro e w6 ⟨rfl, hx⟩
        replace HX := hid (HX.out.then hx)
        replace HO5 := hid (own_ext HO5.out hx)
        replace HP5 := hid (own_ext HP5.out hx)
        clear hx z0 z1 z2
        go_wp2
        go_roundw
        case rel => exact ⟨k + 1, by omega, by go_num, by rw [HE.out, bls_app]; exact HO5.out, by rw [HE2.out]; exact HP5.out, HX.out⟩
        case measure => simp [intOf]; omega
      | true =>
        have hk0 : kk ≠ 0 := by simpa using hq.symm
        have HE2 := hid (HY.out hk0)
        clear hq hk0
        go_wp2_with (at_builtin; go_loud (refine wpList_app rfl (.tmp 24) (.tmp 27) rowBl rfl _ k (bls M) rfl (own_ext HO.out (Ext.new (ext_refl _) _)) _ 1 (bls [true]) rfl (Src.rd Try.underlying42 _ 1 1 _ rfl (rd_lit rfl rfl) (bls_one _) (fun h => by cases h)) (by have := HL.out; simp only [maxLen]; omega) (by have := HL.out; omega) (by have := HX.out.size; simp; omega) ?_; intro v' w5 hown5 hgrow hat hbel; have HO5 := hid hown5; have HP5 := hid ((own_ext HO2.out (Ext.new (ext_refl _) _)).kept hgrow (own_ne HO2.out HO.out (by decide))); replace HX : Hid (Ext w0 _) := hid ((Ext.new HX.out _).trans hbel); have BZ5 := hid ((BZ.out.alloc _).grown hgrow HG1.out); clear hown5 hgrow hat hbel z0 z1 z2; obtain ⟨z0, z1, z2⟩ := BZ5.out.c3))
        refine Calls.mono (HT.out _) ?_
        rintro e w6 ⟨rfl, hx⟩
        replace HX := hid (HX.out.then hx)
        replace HO5 := hid (own_ext HO5.out hx)
        replace HP5 := hid (own_ext HP5.out hx)
        replace BZ5 := hid (BZ5.out.keep hx)
        clear hx z0 z1 z2
        obtain ⟨z0, z1, z2⟩ := BZ5.out.c3
        go_wp2_with (at_builtin; go_loud (refine wpList_app rfl (.tmp 31) (.tmp 33) rowCl rfl _ D.length (cls D) rfl (own_ext HP5.out (Ext.new (ext_refl _) _)) _ 1 (cls [(kk, nn, ss)]) rfl (Src.rd Try.underlying22 _ 1 1 _ rfl (rd_lit rfl rfl) (cls_one _) (fun h => by cases h)) (by have := HL.out; have := HDL.out; simp only [maxLen]; omega) (by have := HL.out; have := HDL.out; omega) (by have := HX.out.size; simp; omega) ?_; intro v7 w7 hown7 hgrow hat hbel; have HP7 := hid hown7; have HO7 := hid ((own_ext HO5.out (Ext.new (ext_refl _) _)).kept hgrow (own_ne HO5.out HP5.out (by decide))); replace HX : Hid (Ext w0 _) := hid ((Ext.new HX.out _).trans hbel); clear hown7 hgrow hat hbel z0 z1 z2))
        go_roundw
        case rel => exact ⟨k + 1, by omega, by go_num, by rw [HE.out, bls_app]; exact HO7.out, by rw [HE2.out, List.length_append, cls_app]; exact HP7.out, HX.out⟩
        case measure => simp [intOf]; omega
    · obtain rfl : k = n := by omega
      have e : l.take k = l := List.take_of_length_le (by rw [HN.out]; exact Nat.le_refl _)
      rw [e] at hown hown2
      have HO1 := hid (own_base hown X0.out.size)
      have HO2 := hid (own_base hown2 X0.out.size)
      have HX := hid (X0.out.then X)
      clear hown hown2 X
      go_wp2
      go_returns
      exact ⟨_, _, rfl, HO1.out, HO2.out, HX.out⟩
set_option maxHeartbeats 2000000 in
theorem join_own (kind : Int) (m : List Bool) (l : List Cel) (A B : Option Addr) (n k ca cb : Nat) (w : World) (hm : m.length = k) (hrm : Rd w A (bls m)) (hn : l.length = n) (hr : Rd w B (cls l)) (hcap : n ≤ cb) (hj : Cel.jchk kind m l = 0) :
    Calls Try.prog 29 #[.int .i64 kind, .slice A k ca, .slice B n cb] w fun e w' => ∃ v, e = .returned (.tuple #[v, .int .i64 0]) ∧ w'.ownsRow w.heap.size 25 3 v k (cls (Cel.jn m l)) ∧ Ext w w' := by
  obtain ⟨j1, j2, j3, j4⟩ := Cel.jchk_ok hj
  have hk64 : k ≤ 64 := by rw [← hm]; exact j3
  have hnk : n ≤ 64 := by rw [← hn, ← j4]; exact Nat.le_trans List.count_le_length j3
  have HC := hid (jcheck_any kind m l A B n k ca cb w hm hrm hn hr (by omega) (by omega))
  rw [hj] at HC
  have HM := hid hm; have HN := hid hn; have HRM := hid hrm; have HR := hid hr; have HCO := hid j4; have HCAP := hid hcap
  have hkI : (k : Int) ≤ 64 := by omega
  have hk64' := hid hk64
  clear hm hn hrm hr hj j1 j2 j3 j4 hcap hk64
  go_enter Try.func29, Try.ntmps29
  go_wp2_with fail
  refine Calls.mono HC.out ?_
  rintro e w0 ⟨rfl, hx⟩
  have X0 := hid hx
  clear hx
  go_wp2
  go_loopw [2, 9, 22] (fun lv ov c wr => ∃ i : Nat, i ≤ k ∧ c = .int .i64 i ∧ (∃ B', lv = .slice B' (n - (m.take i).count true) (cb - (m.take i).count true) ∧ Rd w B' (cls (l.drop ((m.take i).count true)))) ∧ wr.ownsRow w0.heap.size 25 3 ov i (cls ((Cel.jn m l).take i)) ∧ Ext w0 wr) (fun _ _ c _ => k - (intOf c).toNat)
  case atStart => exact ⟨0, Nat.zero_le _, rfl, ⟨B, rfl, HR.out⟩, World.ownsRow_nil _ _ _ _, ext_refl _⟩
  case round =>
    obtain ⟨i, hi, rfl, ⟨B', rfl, hB'⟩, hown, X⟩ := hrel
    by_cases hlt : i < k
    · have hia : i < m.length := by rw [HM.out]; exact hlt
      obtain ⟨b1, o1, e1, l1, c1⟩ := HRM.out.bool (by omega)
      subst e1
      have XX := X0.out.then X
      have dm := (XX.cell (p := ⟨b1, o1 + i, none⟩) l1).trans (c1 i hia)
      obtain ⟨b, hb⟩ : ∃ b, b = m[i] := ⟨_, rfl⟩
      rw [← hb] at dm
      have HT := hid (Cel.jn_take m l i hia)
      have HCT := hid (count_take m i hia)
      rw [← hb] at HCT
      have HOWN := hid hown
      have HX := hid X
      cases b with
      | false =>
        have HE := hid (Cel.jat_no m l i hia hb.symm)
        rw [HE.out] at HT
        have HCT2 : Hid ((m.take (i + 1)).count true = (m.take i).count true) := hid (by rw [HCT.out]; rfl)
        obtain ⟨p, hp⟩ : ∃ p, p = (m.take i).count true := ⟨_, rfl⟩
        rw [← hp] at HCT2 hB' ⊢
        obtain ⟨q1, hq1⟩ : ∃ q, q = n - p := ⟨_, rfl⟩
        obtain ⟨q2, hq2⟩ : ∃ q, q = cb - p := ⟨_, rfl⟩
        rw [← hq1, ← hq2]
        have HB := hid hB'
        have HQ1 := hid hq1; have HQ2 := hid hq2
        clear HCT HE hia c1 l1 hb hp hown X XX hB' hq1 hq2
        generalize (Cel.jn m l).take i = D at *
        go_wp2_with (at_builtin; go_loud (refine wpList_app rfl (.tmp 32) (.tmp 34) rowCl rfl _ i (cls D) rfl (own_ext HOWN.out (Ext.new (Ext.new (ext_refl _) _) _)) _ 1 (cls [Cel.O]) rfl (Src.rd Try.underlying22 _ 1 1 _ rfl (rd_lit (by simp) rfl) (cls_one _) (fun h => by cases h)) (by have := hk64'.out; simp only [maxLen]; omega) (by have := hk64'.out; omega) (by have := HX.out.size; simp; omega) ?_; intro v' w5 hown5 hgrow hat hbel))
        go_roundw
        case rel => exact ⟨i + 1, by omega, by go_num, ⟨B', by rw [HCT2.out, HQ1.out, HQ2.out], by rw [HCT2.out]; exact HB.out⟩, by rw [HT.out, cls_app]; exact hown5, ((Ext.new (Ext.new HX.out _) _).trans hbel)⟩
        case measure => simp [intOf]; omega
      | true =>
        have hpn : (m.take i).count true < n := by rw [← HN.out, ← HCO.out]; exact Cel.count_at m i hia hb.symm
        have HE := hid (Cel.jat_yes m l i hia hb.symm (by rw [HN.out]; exact hpn))
        rw [HE.out] at HT
        have HCT2 : Hid ((m.take (i + 1)).count true = (m.take i).count true + 1) := hid (by rw [HCT.out]; rfl)
        obtain ⟨p, hp⟩ : ∃ p, p = (m.take i).count true := ⟨_, rfl⟩
        simp only [← hp] at HCT2 hB' HT hpn ⊢
        obtain ⟨b2, o2, e2, l2, c2⟩ := hB'.cels 0 (by rw [List.length_drop, HN.out]; omega)
        subst e2
        have q := c2 0 (by rw [List.length_drop, HN.out]; omega)
        simp only [List.getElem_drop, Nat.add_zero, Nat.zero_mul] at q
        obtain ⟨cc, hcc⟩ : ∃ cc, cc = l[p]'(by rw [HN.out]; exact hpn) := ⟨_, rfl⟩
        rw [← hcc] at q HT
        obtain ⟨ck, cn, cs⟩ := cc
        have d0 := (XX.cell (p := ⟨b2, o2, none⟩) l2).trans q.1
        have d1 := (XX.cell (p := ⟨b2, o2 + 1, none⟩) l2).trans q.2.1
        have d2 := (XX.cell (p := ⟨b2, o2 + 2, none⟩) l2).trans q.2.2
        obtain ⟨q1, hq1⟩ : ∃ q, q = n - p := ⟨_, rfl⟩
        obtain ⟨q2, hq2⟩ : ∃ q, q = cb - p := ⟨_, rfl⟩
        have HB := hid (Rd.from (f := cel3) (m := 3) (fun _ => rfl) hB' 1 q2 (by rw [List.length_drop, HN.out, hq2]; have := HCAP.out; omega))
        have hsl := fun wx : World => sl_from (P := Try.prog) (t := 22) (e := 25) (m := 3) Try.underlying22 (by kernel_rfl) (some ⟨b2, o2, none⟩) q1 q2 .i64 1 (by omega) wx
        rw [← hq1, ← hq2]
        obtain ⟨B2, hB2⟩ : ∃ B2, B2 = slF (some ⟨b2, o2, none⟩) 1 q2 3 := ⟨_, rfl⟩
        rw [← hB2] at HB hsl
        have hsl' : ∀ wx : World, (Instr.sliceAt 22 (.slice (some ⟨b2, o2, none⟩) q1 q2) (some (.int .i64 1)) none none).run Try.prog wx = .ok (.slice B2 (q1 - 1) (q2 - 1)) wx := hsl
        have hq0 : 0 < q1 := by omega
        have HQ1 := hid hq1; have HQ2 := hid hq2
        have HG := hid (own_not hown (Nat.le_refl _))
        clear HCT HE hia c1 l1 hb hp hown X XX hB' hq1 hq2 c2 q hcc hB2 hsl hpn l2
        generalize (Cel.jn m l).take i = D at *
        go_wp2_with fail
        have d0r := cell_regrown d0
        have d1r := cell_regrown d1
        have d2r := cell_regrown d2
        refine wp_region_plan (w0 := wr) [0, 1, 2, 3, 4] [5, 6] ((ext_refl _).new _) (by kernel_rfl) (by kernel_rfl) (fun _ _ _ _ _ h => h) (by kernel_rfl) (by kernel_rfl) (by rfl) ?_
        simp only [List.filterMap_cons, List.filterMap_nil, List.getElem?_toArray, List.getElem?_cons_zero, List.getElem?_cons_succ]
        repeat (refine wpG_val (by rfl) (by rfl) ?_; intro K hK; go_big_quiet_op; go_big_quiet_on)
        refine wpG_nil ?_
        intro w5 X5
        have HBZ := hid ((Blk.new wr 25 #[.int .i64 0, .int .u64 0, .string ⟨#[]⟩]).keep X5)
        have HX5 := hid (Ext.then ((ext_refl wr).new (.cells #[.int .i64 0, .int .u64 0, .string ⟨#[]⟩] 25)) X5)
        clear X5 dm d0r d1r d2r
        refine wpT_store rfl 25 (.tmp 12) (.tmp 29) rfl wr.heap.size (celA (ck, cn, cs)) rfl rfl 25 _ HBZ.out (by kernel_rfl) rfl (by simp [Value.oneCell']) (Nat.le_refl _) HX5.out ?_
        intro w6 hB6 hF6 hL6
        refine wpT_assign rfl (.tmp 31) (.slice B2 (q1 - 1) (q2 - 1)) rfl rfl hL6 ?_
        refine wpT_nil ?_
        simp only [Act.put, List.setIfInBounds_toArray, List.set_cons_zero, List.set_cons_succ]
        have HB6 := hid hB6
        have HO6 := hid (own_far (own_ext HOWN.out HX5.out) HG.out hF6)
        have HX6 : Hid (Ext wr w6) := hid hL6
        obtain ⟨z0, z1, z2⟩ := hB6.c3
        clear hB6 hF6 hL6 d0 d1 d2 hsl'
        go_wp2_with (at_builtin; go_loud (refine wpList_app rfl (.tmp 32) (.tmp 34) rowCl rfl _ i (cls D) rfl (own_ext HO6.out (Ext.new (ext_refl _) _)) _ 1 (cls [(ck, cn, cs)]) rfl (Src.rd Try.underlying22 _ 1 1 _ rfl (rd_lit rfl rfl) (cls_one _) (fun h => by cases h)) (by have := hk64'.out; simp only [maxLen]; omega) (by have := hk64'.out; omega) (by have := HX.out.size; have := HX6.out.size; simp; omega) ?_; intro v' w7 hown7 hgrow hat hbel))
        go_roundw
        case rel => exact ⟨i + 1, by omega, by go_num, ⟨B2, by rw [HCT2.out]; congr 1 <;> (first | (have := HQ1.out; omega) | (have := HQ2.out; omega)), by rw [HCT2.out]; have := HB.out; rw [List.drop_drop] at this; exact this⟩, by rw [HT.out, cls_app]; exact hown7, (Ext.new (HX.out.then HX6.out) _).trans hbel⟩
        case measure => simp [intOf]; omega
    · obtain rfl : i = k := by omega
      have e : (Cel.jn m l).take i = Cel.jn m l := List.take_of_length_le (by rw [Cel.jn_len, HM.out]; exact Nat.le_refl _)
      rw [e] at hown
      have HO1 := hid (own_base hown X0.out.size)
      have HX := hid (X0.out.then X)
      clear hown X hB'
      go_wp2
      go_returns
      exact ⟨_, rfl, HO1.out, HX.out⟩
end Go.Proofs.Ytikdmnedbfpkeaa
