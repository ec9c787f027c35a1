/- Tables, the document: AppendOf: walk (printed by gen_tzh.py). -/
import Derived.Test.YtolhifnlahllnaaGreatDoorTze
namespace Go.Proofs.YtolhifnlahllnaaGreatDoor
open Go.RowKit Hy
set_option maxHeartbeats 6400000 in
set_option maxRecDepth 100000 in
/-- the document's tables put together -/
theorem appOf_any (t s : Tb.Tab) (u v : Value) (w : World) (hv : TbV w v t) (hb : TbB t) (hs : TbV w u s) (hbs : TbB s) :
    Calls Tryz.prog 15 #[v, u] w fun e w' => ∃ v', e = .returned (.tuple #[v', .int .i64 ((Tb.appE t s : Nat) : Int)]) ∧ TbV w' v' (Tb.res (Tb.appE t s) (Tb.appT t s)) ∧ Ext w w' := by
  have HV0 := hid hv
  have HB := hid hb
  obtain ⟨A, n, c, B, m, d, rfl⟩ := hv.shape
  have HTC := hid (fun wx (hx : Ext w wx) => tabCheck_any t _ wx (HV0.out.keep hx) HB.out)
  have HRO := hid (fun wx (hx : Ext w wx) => rowsOf_any t _ wx (HV0.out.keep hx) HB.out)
  have HU0 := hid hs
  have HBS := hid hbs
  obtain ⟨A2, n2, c2, B2, m2, d2, rfl⟩ := hs.shape
  have HTC2 := hid (fun wx (hx : Ext w wx) => tabCheck_any s _ wx (HU0.out.keep hx) HBS.out)
  have HRO2 := hid (fun wx (hx : Ext w wx) => rowsOf_any s _ wx (HU0.out.keep hx) HBS.out)
  obtain ⟨R, hR⟩ : ∃ R, R = Tb.appE t s := ⟨_, rfl⟩
  rw [← hR]
  by_cases h0 : Tb.tbck t = 0
  · have hW := hR.trans (Tb.appE_w (s := s) h0)
    rw [h0] at HTC
    by_cases h2 : Tb.tbck s = 0
    · rw [h2] at HTC2
      have hrt := (Tb.right_iff t).1 h0
      have hrs := (Tb.right_iff s).1 h2
      obtain ⟨L, hn, hm, h1, h3, hL, hok, hc⟩ := tb_parts hv
      obtain ⟨L2, hn2, hm2, k1, k3, kL, kok, kc⟩ := tb_parts hs
      have hzb : A = none → t.1.length = 0 := by
        obtain ⟨A', c', B', d', L', e, _, _, _, _, q5, _, _⟩ := hv
        simp only [Value.agg.injEq, Array.mk.injEq, List.cons.injEq, Value.slice.injEq] at e
        rw [e.1.1]; exact q5
      have h6 := hrt.six
      have h6s := hrs.six
      have hlen := hrt.len
      have hlens := hrs.len
      have HSC := hid (fun wx (hx : Ext w wx) => sameC_any t.1 s.1 A A2 n n2 c c2 wx hn.symm (h1.keep hx) hn2.symm (k1.keep hx) (by omega))
      by_cases hcol : t.1 = s.1
      · rw [show Tb.sameC t.1 s.1 = true by unfold Tb.sameC; exact decide_eq_true hcol] at HSC
        obtain ⟨M, hM⟩ : ∃ M, M = Tb.many t := ⟨_, rfl⟩
        obtain ⟨M2, hM2⟩ : ∃ M, M = Tb.many s := ⟨_, rfl⟩
        have hlim := hrt.lim
        have hlims := hrs.lim
        rw [← hM] at HRO hlim
        rw [← hM2] at HRO2 hlims
        have hMI : (M : Int) ≤ 128 := by omega
        have hM2I : (M2 : Int) ≤ 128 := by omega
        by_cases hmany : 128 < M + M2
        · have HV := hid (hW.trans (Tb.appW_many h2 hcol (by rw [← hM, ← hM2]; exact hmany)))
          have HNE := hid (show (2 : Nat) ≠ 0 by decide)
          have hgI : (128 : Int) < (M : Int) + (M2 : Int) := by omega
          clear hv hb hs hbs hR h0 h2 hW hrt hrs hn hm h1 h3 hL hok hc hn2 hm2 k1 k3 kL kok kc hzb h6 h6s hlen hlens hcol hM hM2 hlim hlims hmany
          go_enter Tryz.func15, Tryz.ntmps15
          go_upto_region 1 with fail
          refine wp_gen (fun w' => Ext w w' ∧ Blk w' (w.heap.size) 25 #[.slice A n c, .slice B m d] ∧ Blk w' (w.heap.size + 1) 25 #[.slice A2 n2 c2, .slice B2 m2 d2] ∧ Blk w' (w.heap.size + 1 + 1) 25 #[.slice none 0 0, .slice none 0 0]) ⟨((((ext_refl w)).new _).new _).new _, (((Blk.new _ _ _)).alloc _).alloc _, ((blk_at _ _ (by simp))).alloc _, (blk_at _ _ (by simp))⟩ ?_
          rintro wz ⟨x0, x1, x2, x3⟩
          have X : Hid (Ext w wz) := hid x0
          have BT := hid x1
          have BS := hid x2
          have BR := hid x3
          clear x0 x1 x2 x3
          have kBT0 := BT.out.cell 0
          have kBT1 := BT.out.cell 1
          go_wp2_with fail
          refine Calls.mono (HTC.out _ X.out) ?_
          rintro e w1 ⟨rfl, hx⟩
          replace X := hid (X.out.then hx)
          replace BR := hid (BR.out.keep hx)
          replace BT := hid (BT.out.keep hx)
          replace BS := hid (BS.out.keep hx)
          clear kBT0 kBT1 hx
          have kBS0 := BS.out.cell 0
          have kBS1 := BS.out.cell 1
          go_wp2_with fail
          refine Calls.mono (HTC2.out _ X.out) ?_
          rintro e w2 ⟨rfl, hx⟩
          replace X := hid (X.out.then hx)
          replace BR := hid (BR.out.keep hx)
          replace BT := hid (BT.out.keep hx)
          replace BS := hid (BS.out.keep hx)
          clear kBS0 kBS1 hx
          have kS0 := BS.out.cell 0
          have kBT0 := BT.out.cell 0
          go_wp2_with fail
          refine Calls.mono (HSC.out _ X.out) ?_
          rintro e w3 ⟨rfl, hx⟩
          replace X := hid (X.out.then hx)
          replace BR := hid (BR.out.keep hx)
          replace BT := hid (BT.out.keep hx)
          replace BS := hid (BS.out.keep hx)
          clear kBT0 hx kS0
          have kBT0 := BT.out.cell 0
          have kBT1 := BT.out.cell 1
          have kBS0 := BS.out.cell 0
          have kBS1 := BS.out.cell 1
          have kBT0r := cell_regrown kBT0
          have kBT1r := cell_regrown kBT1
          have kBS0r := cell_regrown kBS0
          have kBS1r := cell_regrown kBS1
          go_upto_region 6 with fail
          refine wp_region_walk [(0, true), (1, true), (2, true), (3, true), (5, true), (4, false), (6, false), (7, true), (8, true), (9, true)] (by kernel_rfl) (by kernel_rfl) (fun _ _ _ _ _ h => h) (by kernel_rfl) (by rfl) ?_
          simp only [List.filterMap_cons, List.filterMap_nil, List.getElem?_toArray, List.getElem?_cons_zero, List.getElem?_cons_succ, Option.map_some]
          repeat (refine wpM_val (by rfl) ?_; intro K hK; go_big_quiet_op; go_big_quiet_on)
          refine wpM_do (by rfl) ?_
          intro K hK
          go_simp
          refine Calls.mono (HRO.out _ (Ext.then X.out (Ext.draw (ext_refl w3)))) ?_
          rintro e w4 ⟨rfl, hx⟩
          have Y4 := hid (Ext.then (Ext.draw (ext_refl w3)) hx)
          refine hK _ _ Y4.out ?_
          clear K hK hx
          refine wpM_do (by rfl) ?_
          intro K hK
          go_simp
          refine Calls.mono (HRO2.out _ (X.out.then Y4.out)) ?_
          rintro e w5 ⟨rfl, hx⟩
          have Y5 := hid (Y4.out.then hx)
          refine hK _ _ Y5.out ?_
          clear K hK hx
          repeat (refine wpM_val (by rfl) ?_; intro K hK; go_big_quiet_op; go_big_quiet_on)
          refine wpM_nil ?_
          replace X := hid (X.out.then Y5.out)
          replace BR := hid (BR.out.keep Y5.out)
          replace BT := hid (BT.out.keep Y5.out)
          replace BS := hid (BS.out.keep Y5.out)
          clear kBT0 kBT1 kBS0 kBS1 kBT0r kBT1r kBS0r kBS1r
          have q0 := BR.out.cell 0
          have q1 := BR.out.cell 1
          have f0 := BR.out.frozen 0
          have f1 := BR.out.frozen 1
          have ql := BR.out.lt
          go_wp2
          have HBF := hid (((BR.out.set 0 (.slice none 0 0)).set 1 (.slice none 0 0)).cast (cs' := #[.slice none 0 0, .slice none 0 0]) (by simp))
          have XF := hid (Ext.put (Ext.put X.out (p := ⟨w.heap.size + 1 + 1, 0, none⟩) (by simp only; omega) (.slice none 0 0)) (p := ⟨w.heap.size + 1 + 1, 1, none⟩) (by simp only; omega) (.slice none 0 0))
          refine bodyPost_ret (results_blk2 rfl _ _ (w.heap.size + 1 + 1) 25 _ _ rfl HBF.out Tryz.underlying25 rfl (by kernel_rfl)) rfl ?_
          exact ⟨_, by rw [HV.out]; rfl, by rw [HV.out, Tb.res_no HNE.out]; exact tb0_V _, XF.out⟩
        · have HV := hid (hW.trans (Tb.appW_ok h2 hcol (by rw [← hM, ← hM2]; exact hmany)))
          have hgI : (M : Int) + (M2 : Int) ≤ 128 := by omega
          have HNN := hid hn; have HM := hid hm; have HM2 := hid hm2
          have HA := hid h1; have HBR := hid h3; have HLM := hid hL; have HOK := hid hok; have HZA := hid hzb; have HCC := hid hc
          have HBR2 := hid k3; have HLM2 := hid kL; have HOK2 := hid kok
          have HMM : Hid (m2 = m ∧ m ≤ 6) := hid ⟨by rw [hm2, hm, ← hlens, ← hlen, ← hcol], by omega⟩
          have HROW := hid (fun l (hl : l ∈ t.2) => show l.length = M by rw [hrt.row l hl, hM])
          have HROW2 := hid (fun l (hl : l ∈ s.2) => show l.length = M2 by rw [hrs.row l hl, hM2])
          have hmI : (m : Int) ≤ 6 := by have := HMM.out; omega
          have HLIM := hid (show M ≤ 128 ∧ M2 ≤ 128 from ⟨hlim, hlims⟩)
          clear hv hb hs hbs hR h0 h2 hW hrt hrs hn hm h1 h3 hL hok hc hn2 hm2 k1 k3 kL kok kc hzb h6 h6s hlen hlens hcol hM hM2 hlim hlims hmany
          go_enter Tryz.func15, Tryz.ntmps15
          go_upto_region 1 with fail
          refine wp_gen (fun w' => Ext w w' ∧ Blk w' (w.heap.size) 25 #[.slice A n c, .slice B m d] ∧ Blk w' (w.heap.size + 1) 25 #[.slice A2 n2 c2, .slice B2 m2 d2] ∧ Blk w' (w.heap.size + 1 + 1) 25 #[.slice none 0 0, .slice none 0 0]) ⟨((((ext_refl w)).new _).new _).new _, (((Blk.new _ _ _)).alloc _).alloc _, ((blk_at _ _ (by simp))).alloc _, (blk_at _ _ (by simp))⟩ ?_
          rintro wz ⟨x0, x1, x2, x3⟩
          have X : Hid (Ext w wz) := hid x0
          have BT := hid x1
          have BS := hid x2
          have BR := hid x3
          clear x0 x1 x2 x3
          have kBT0 := BT.out.cell 0
          have kBT1 := BT.out.cell 1
          go_wp2_with fail
          refine Calls.mono (HTC.out _ X.out) ?_
          rintro e w1 ⟨rfl, hx⟩
          replace X := hid (X.out.then hx)
          replace BR := hid (BR.out.keep hx)
          replace BT := hid (BT.out.keep hx)
          replace BS := hid (BS.out.keep hx)
          clear kBT0 kBT1 hx
          have kBS0 := BS.out.cell 0
          have kBS1 := BS.out.cell 1
          go_wp2_with fail
          refine Calls.mono (HTC2.out _ X.out) ?_
          rintro e w2 ⟨rfl, hx⟩
          replace X := hid (X.out.then hx)
          replace BR := hid (BR.out.keep hx)
          replace BT := hid (BT.out.keep hx)
          replace BS := hid (BS.out.keep hx)
          clear kBS0 kBS1 hx
          have kS0 := BS.out.cell 0
          have kBT0 := BT.out.cell 0
          go_wp2_with fail
          refine Calls.mono (HSC.out _ X.out) ?_
          rintro e w3 ⟨rfl, hx⟩
          replace X := hid (X.out.then hx)
          replace BR := hid (BR.out.keep hx)
          replace BT := hid (BT.out.keep hx)
          replace BS := hid (BS.out.keep hx)
          clear kBT0 hx kS0
          have kBT0 := BT.out.cell 0
          have kBT1 := BT.out.cell 1
          have kBS0 := BS.out.cell 0
          have kBS1 := BS.out.cell 1
          have kBT0r := cell_regrown kBT0
          have kBT1r := cell_regrown kBT1
          have kBS0r := cell_regrown kBS0
          have kBS1r := cell_regrown kBS1
          go_upto_region 6 with fail
          refine wp_region_walk [(0, true), (1, true), (2, true), (3, true), (5, true), (4, false), (6, false), (7, true), (8, true), (9, true)] (by kernel_rfl) (by kernel_rfl) (fun _ _ _ _ _ h => h) (by kernel_rfl) (by rfl) ?_
          simp only [List.filterMap_cons, List.filterMap_nil, List.getElem?_toArray, List.getElem?_cons_zero, List.getElem?_cons_succ, Option.map_some]
          repeat (refine wpM_val (by rfl) ?_; intro K hK; go_big_quiet_op; go_big_quiet_on)
          refine wpM_do (by rfl) ?_
          intro K hK
          go_simp
          refine Calls.mono (HRO.out _ (Ext.then X.out (Ext.draw (ext_refl w3)))) ?_
          rintro e w4 ⟨rfl, hx⟩
          have Y4 := hid (Ext.then (Ext.draw (ext_refl w3)) hx)
          refine hK _ _ Y4.out ?_
          clear K hK hx
          refine wpM_do (by rfl) ?_
          intro K hK
          go_simp
          refine Calls.mono (HRO2.out _ (X.out.then Y4.out)) ?_
          rintro e w5 ⟨rfl, hx⟩
          have Y5 := hid (Y4.out.then hx)
          refine hK _ _ Y5.out ?_
          clear K hK hx
          repeat (refine wpM_val (by rfl) ?_; intro K hK; go_big_quiet_op; go_big_quiet_on)
          refine wpM_nil ?_
          replace X := hid (X.out.then Y5.out)
          replace BR := hid (BR.out.keep Y5.out)
          replace BT := hid (BT.out.keep Y5.out)
          replace BS := hid (BS.out.keep Y5.out)
          clear kBT0 kBT1 kBS0 kBS1 kBT0r kBT1r kBS0r kBS1r
          have kBT0 := BT.out.cell 0
          have kBT1 := BT.out.cell 1
          go_wp2
          have F0 := hid (Blk.new w5 25 #[.slice A n c, .slice none 0 0])
          have E0 := hid (Ext.new (ext_refl w5) (.cells #[.slice A n c, .slice none 0 0] 25))
          go_loopw [8] (fun ii wr => ∃ k : Nat, k ≤ m ∧ ii = .int .i64 k ∧ ∃ B' d' L', Hid (Blk wr w5.heap.size 25 #[.slice A n c, .slice B' k d']) ∧ Hid (wr.ownsRow w5.heap.size 45 1 (.slice B' k d') k (rws' L')) ∧ Hid (L'.map (·.2) = (List.zipWith (· ++ ·) t.2 s.2).take k) ∧ Hid (∀ x ∈ L', RwO wr w5.heap.size x) ∧ Hid (Ext w5 wr)) (fun ii _ => m - (intOf ii).toNat)
          case atStart => exact ⟨0, Nat.zero_le _, rfl, none, 0, [], F0, hid (World.ownsRow_nil _ _ _ _), hid rfl, hid (fun x hx => absurd hx List.not_mem_nil), E0⟩
          case round =>
            obtain ⟨k, hk, rfl, B', d', L', HF, HO, HL', HR', HX⟩ := hrel
            have p0 := (BT.out.keep HX.out).cell 0
            have p1 := (BT.out.keep HX.out).cell 1
            by_cases hlt : k < m
            · have hkd : k < t.2.length := by rw [← HM.out]; exact hlt
              have hkm2 : k < m2 := by rw [HMM.out.1]; exact hlt
              have hkd2 : k < s.2.length := by rw [← HM2.out]; exact hkm2
              have hLl : L.length = t.2.length := by rw [← HLM.out, List.length_map]
              have hLl2 : L2.length = s.2.length := by rw [← HLM2.out, List.length_map]
              have hkL : k < L.length := by rw [hLl]; exact hkd
              have hkL2 : k < L2.length := by rw [hLl2]; exact hkd2
              obtain ⟨b3, o3, e3, l3, c3⟩ := HBR.out.rows k hkL
              obtain ⟨b4, o4, e4, l4, c4⟩ := HBR2.out.rows k hkL2
              have XW := hid (X.out.then HX.out)
              have r0 := ext_cell XW.out (c3 k hkL)
              have r1 := ext_cell XW.out (c4 k hkL2)
              have hdk : L[k].2 = t.2[k] := by simp [← HLM.out]
              have hdk2 : L2[k].2 = s.2[k] := by simp [← HLM2.out]
              obtain ⟨w1', w2', w3', w4'⟩ := HOK.out _ (List.getElem_mem hkL)
              obtain ⟨x1', x2', x3', x4'⟩ := HOK2.out _ (List.getElem_mem hkL2)
              have HLA := hid (show L[k].1.2.1 ≤ 128 by rw [← w1', hdk, HROW.out _ (List.getElem_mem hkd)]; exact HLIM.out.1)
              have HLB := hid (show L2[k].1.2.1 ≤ 128 by rw [← x1', hdk2, HROW2.out _ (List.getElem_mem hkd2)]; exact HLIM.out.2)
              have HRA := hid (⟨w1', w3', w4'⟩ : _ ∧ _ ∧ _)
              have HRB := hid (⟨x1', x3', x4'⟩ : _ ∧ _ ∧ _)
              have hzl : k < (List.zipWith (· ++ ·) t.2 s.2).length := by rw [List.length_zipWith]; omega
              have HSN := hid (show (List.zipWith (· ++ ·) t.2 s.2).take (k + 1) = (List.zipWith (· ++ ·) t.2 s.2).take k ++ [L[k].2 ++ L2[k].2] by rw [List.take_succ_eq_append_getElem hzl, List.getElem_zipWith, hdk, hdk2])
              clear c3 c4 l3 l4 w1' w2' w3' w4' x1' x2' x3' x4' hdk hdk2 hkd hkd2 hLl hLl2 hzl
              generalize L[k] = le at *
              obtain ⟨⟨Aa, la, ca⟩, xa⟩ := le
              generalize L2[k] = lf at *
              obtain ⟨⟨Ab, lb, cb⟩, xb⟩ := lf
              simp only at r0 r1 HLA HLB HRA HRB HSN
              have hltI : (k : Int) < (m : Int) := by omega
              have hlt2I : (k : Int) < (m2 : Int) := by omega
              have laI : (la : Int) ≤ 128 := by have := HLA.out; omega
              have lbI : (lb : Int) ≤ 128 := by have := HLB.out; omega
              have he3 := hid e3
              have he4 := hid e4
              have HK6 := hid (show k ≤ 6 by have := HMM.out.2; omega)
              clear hkL hkL2 hkm2 hlt e3 e4
              have e3 := he3.out
              have e4 := he4.out
              subst e3 e4
              have s0 := (BS.out.keep HX.out).cell 0
              have s1 := (BS.out.keep HX.out).cell 1
              have v1 := HF.out.cell 1
              have p1r := cell_regrown p1
              have s1r := cell_regrown s1
              have v1r := cell_regrown v1
              have r0r := cell_regrown r0
              have r1r := cell_regrown r1
              go_upto_region 14 with fail
              refine wp_region_late [16, 18] [17] [(0, true), (1, true), (3, true), (4, true), (5, true), (6, true), (7, true), (9, true), (10, true), (11, true), (12, true), (13, true), (2, false), (8, false), (14, false), (15, false), (16, false), (17, true), (18, false)] (by kernel_rfl) (by kernel_rfl) (fun _ _ _ _ _ h => h) (by kernel_rfl) (by rfl) ?_
              simp only [List.filterMap_cons, List.filterMap_nil, List.getElem?_toArray, List.getElem?_cons_zero, List.getElem?_cons_succ, Option.map_some, List.contains_cons, List.contains_nil, Nat.reduceBEq, Bool.or_false, Bool.or_true]
              repeat ((first | refine wpL_val (by rfl) ?_ | refine wpL_pure (by rfl) ?_); intro K hK; go_big_quiet_op; go_big_quiet_on)
              refine wpL_do (by rfl) ?_
              intro K hK
              go_simp
              have J1 := hid (Ext.new (Ext.draw (ext_refl wr)) (.cells #[] 42))
              have O1 := hid (own_new (w := wr.drew) (C := #[]) (e := 42) (size := 3) (base := wr.heap.size) (n := 0) rfl rfl (Nat.le_refl _) (Nat.zero_le _))
              refine hK _ _ J1.out ?_
              clear K hK
              refine wpL_do (by rfl) ?_
              intro K hK
              refine wp_app (.tmp 51) (.tmp 56) rowCe rfl _ 0 [] rfl O1.out _ la (cls xa) rfl (Src.rd Tryz.underlying45 _ la ca (cls xa) (by rw [cls_len, HRA.out.1]) (HRA.out.2.2.keep (XW.out.then J1.out)) (cls_one _) HRA.out.2.1) (by have := HLA.out; simp only [maxLen]; omega) (by have := HLA.out; omega) J1.out.size ?_
              intro u1 y1 hown hgrow hat hbel
              rw [Nat.zero_add, List.nil_append] at hown
              have O2 := hid hown
              have J2 := hid (Below.trans J1.out hbel)
              refine hK _ _ J2.out ?_
              clear K hK hown hgrow hat hbel
              refine wpL_do (by rfl) ?_
              intro K hK
              simp only [Act.put, List.setIfInBounds_toArray, List.set_cons_zero, List.set_cons_succ]
              refine wp_app (.tmp 57) (.tmp 62) rowCe rfl _ la (cls xa) rfl O2.out _ lb (cls xb) rfl (Src.rd Tryz.underlying45 _ lb cb (cls xb) (by rw [cls_len, HRB.out.1]) (HRB.out.2.2.keep (XW.out.then J2.out)) (cls_one _) HRB.out.2.1) (by have := HLA.out; have := HLB.out; simp only [maxLen]; omega) (by have := HLA.out; have := HLB.out; omega) J2.out.size ?_
              intro u2 y2 hown hgrow hat hbel
              rw [← cls_app] at hown
              have O3 := hid hown
              obtain ⟨Al, cl, rfl, _⟩ := Rd.owned hown
              have J3 := hid (show Ext wr y2 from Below.trans J2.out hbel)
              refine hK _ _ J3.out ?_
              clear K hK hown hgrow hat hbel
              simp only [Act.put, List.setIfInBounds_toArray, List.set_cons_zero, List.set_cons_succ]
              obtain ⟨lst, hlst⟩ : ∃ l, l = xa ++ xb := ⟨_, rfl⟩
              obtain ⟨ll, hll⟩ : ∃ l, l = la + lb := ⟨_, rfl⟩
              rw [← hlst, ← hll] at O3
              rw [← hlst] at HSN
              rw [← hll]
              clear hlst hll
              refine wpL_do (by rfl) ?_
              intro K hK
              go_simp
              have HXn := hid (Ext.new (ext_refl y2) (.cells #[.slice Al ll cl] 45))
              have J4 := hid (J3.out.then HXn.out)
              refine hK _ _ J4.out ?_
              clear K hK
              have HOx := hid (own_ext HO.out J4.out)
              have HFx := hid (HF.out.keep J4.out)
              have HBx := hid (own_nblk HOx.out HFx.out (by decide))
              refine wpL_late (by rfl) ?_
              intro K hK
              refine wp_app (.tmp 50) (.tmp 64) rowRo rfl _ k (rws' L') rfl HOx.out _ 1 (rws' [((Al, ll, cl), lst)]) rfl (Src.rd Tryz.underlying23 _ 1 1 (rws' [((Al, ll, cl), lst)]) rfl (rd_lit (w := y2) (g := y2.heap.size) (C := #[.slice Al ll cl]) (e := 45) (fz := (0, 0)) (cs := rws' [((Al, ll, cl), lst)]) rfl rfl) (rws_one _) (fun h => by cases h)) (by have := HK6.out; simp only [maxLen] at *; omega) (by have := HK6.out; omega) (Nat.le_trans HX.out.size J4.out.size) ?_
              intro v2 w9 hown9 hgrow hat hbel
              have HG9 := hid hgrow
              have M1 := hid hown9
              have MB := hid (Blk.grw HFx.out hgrow HBx.out)
              have MX := hid hbel
              obtain ⟨A8, c8, rfl, _⟩ := Rd.owned hown9
              have q1 := MB.out.cell 1
              have f1 := MB.out.frozen 1
              clear hown9 hgrow hat hbel p0 p1 p1r s0 s1 s1r v1 v1r r0 r0r r1 r1r
              refine hK _ _ ?_
              clear K hK
              simp only [Act.put, List.setIfInBounds_toArray, List.set_cons_zero, List.set_cons_succ]
              repeat (refine wpL_pure (by rfl) ?_; intro K hK; go_big_quiet_op; go_big_quiet_on)
              refine wpL_late (by rfl) ?_
              intro K hK
              go_simp
              refine hK _ _ ?_
              clear K hK
              refine wpL_nil ?_
              go_wp2
              go_roundw
              case rel =>
                refine ⟨k + 1, by omega, by go_num, A8, c8, L' ++ [((Al, ll, cl), lst)], hid ((MB.out.set 1 (.slice A8 (k + 1) c8)).cast (by simp)), hid ?_, hid ?_, hid ?_, hid ?_⟩
                · rw [rws_app]; exact own_put M1.out (p := ⟨w5.heap.size, 1, none⟩) (own_nblk M1.out MB.out (by decide)) _
                · rw [HSN.out, List.map_append, HL'.out]; rfl
                · intro x hx
                  rcases List.mem_append.1 hx with hx | hx
                  · have h1 := own_ext (HR'.out x hx) J4.out
                    have h2 := World.ownsRow.kept h1 HG9.out (own_ne h1 HOx.out (by decide))
                    exact own_put h2 (p := ⟨w5.heap.size, 1, none⟩) (own_nblk h2 MB.out (by decide)) _
                  · simp only [List.mem_cons, List.not_mem_nil, or_false] at hx
                    subst hx
                    have h1 := own_low' (own_ext O3.out HXn.out) (base := w5.heap.size) HX.out.size
                    have h2 := World.ownsRow.kept h1 HG9.out (own_ne h1 HOx.out (by decide))
                    exact own_put h2 (p := ⟨w5.heap.size, 1, none⟩) (own_nblk h2 MB.out (by decide)) _
                · exact Below.setCell (Below.trans (HX.out.then J4.out) MX.out) (p := ⟨w5.heap.size, 1, none⟩) (Nat.le_refl _) _
              case measure => simp [intOf] <;> omega
            · obtain rfl : k = m := by omega
              have hzl : (List.zipWith (· ++ ·) t.2 s.2).length = k := by rw [List.length_zipWith, ← HM.out, ← HM2.out, HMM.out.1, Nat.min_self]
              have ht : (List.zipWith (· ++ ·) t.2 s.2).take k = List.zipWith (· ++ ·) t.2 s.2 := List.take_of_length_le (by rw [hzl]; exact Nat.le_refl _)
              rw [ht] at HL'
              have HZL := hid hzl
              have o0 := HF.out.cell 0
              have o1 := HF.out.cell 1
              have q0 := (BR.out.keep HX.out).cell 0
              have q1 := (BR.out.keep HX.out).cell 1
              have f0 := (BR.out.keep HX.out).frozen 0
              have f1 := (BR.out.keep HX.out).frozen 1
              have BRl := hid BR.out.lt
              have BR2 := hid (BR.out.keep HX.out)
              have XW := hid (X.out.then HX.out)
              clear hlt ht hzl
              go_wp2
              have HBF := hid (((BR2.out.set 0 (.slice A n c)).set 1 (.slice B' k d')).cast (cs' := #[.slice A n c, .slice B' k d']) (by simp))
              have XF := hid (Ext.put (Ext.put XW.out (p := ⟨w.heap.size + 1 + 1, 0, none⟩) (by simp only; omega) (.slice A n c)) (p := ⟨w.heap.size + 1 + 1, 1, none⟩) (by simp only; omega) (.slice B' k d'))
              refine bodyPost_ret (results_blk2 rfl _ _ (w.heap.size + 1 + 1) 25 _ _ rfl HBF.out Tryz.underlying25 rfl (by kernel_rfl)) rfl ?_
              have e1 : ∀ {e : TypeId} {size : Nat} {u : Value} {q : Nat} {xs : List Value}, wr.ownsRow w5.heap.size e size u q xs → ((wr.setCell ⟨w.heap.size + 1 + 1, 0, none⟩ (.slice A n c)).setCell ⟨w.heap.size + 1 + 1, 1, none⟩ (.slice B' k d')).ownsRow w5.heap.size e size u q xs := fun h => own_past (own_past h (p := ⟨w.heap.size + 1 + 1, 0, none⟩) BRl.out _) (p := ⟨w.heap.size + 1 + 1, 1, none⟩) BRl.out _
              obtain ⟨rB, zB, cB⟩ := own_rd (e1 HO.out)
              refine ⟨_, by rw [HV.out]; rfl, ?_, XF.out⟩
              rw [HV.out, Tb.res_ok]
              exact ⟨A, c, B', d', L', by simp only [Tb.appT, HZL.out, ← HNN.out], HA.out.keep XF.out, rB, HL'.out, fun x hx => RwO.ok (base := w5.heap.size) (e1 (HR'.out x hx)), HZA.out, fun h => by simp only [Tb.appT, HZL.out]; exact zB h, HCC.out⟩
      · have HV := hid (hW.trans (Tb.appW_kind h2 hcol))
        have HNE := hid (show (7 : Nat) ≠ 0 by decide)
        rw [show Tb.sameC t.1 s.1 = false by unfold Tb.sameC; exact decide_eq_false hcol] at HSC
        clear hv hb hs hbs hR h0 h2 hW hrt hrs hn hm h1 h3 hL hok hc hn2 hm2 k1 k3 kL kok kc hzb h6 h6s hlen hlens hcol
        go_enter Tryz.func15, Tryz.ntmps15
        go_upto_region 1 with fail
        refine wp_gen (fun w' => Ext w w' ∧ Blk w' (w.heap.size) 25 #[.slice A n c, .slice B m d] ∧ Blk w' (w.heap.size + 1) 25 #[.slice A2 n2 c2, .slice B2 m2 d2] ∧ Blk w' (w.heap.size + 1 + 1) 25 #[.slice none 0 0, .slice none 0 0]) ⟨((((ext_refl w)).new _).new _).new _, (((Blk.new _ _ _)).alloc _).alloc _, ((blk_at _ _ (by simp))).alloc _, (blk_at _ _ (by simp))⟩ ?_
        rintro wz ⟨x0, x1, x2, x3⟩
        have X : Hid (Ext w wz) := hid x0
        have BT := hid x1
        have BS := hid x2
        have BR := hid x3
        clear x0 x1 x2 x3
        have kBT0 := BT.out.cell 0
        have kBT1 := BT.out.cell 1
        go_wp2_with fail
        refine Calls.mono (HTC.out _ X.out) ?_
        rintro e w1 ⟨rfl, hx⟩
        replace X := hid (X.out.then hx)
        replace BR := hid (BR.out.keep hx)
        replace BT := hid (BT.out.keep hx)
        replace BS := hid (BS.out.keep hx)
        clear kBT0 kBT1 hx
        have kBS0 := BS.out.cell 0
        have kBS1 := BS.out.cell 1
        go_wp2_with fail
        refine Calls.mono (HTC2.out _ X.out) ?_
        rintro e w2 ⟨rfl, hx⟩
        replace X := hid (X.out.then hx)
        replace BR := hid (BR.out.keep hx)
        replace BT := hid (BT.out.keep hx)
        replace BS := hid (BS.out.keep hx)
        clear kBS0 kBS1 hx
        have kS0 := BS.out.cell 0
        have kBT0 := BT.out.cell 0
        go_wp2_with fail
        refine Calls.mono (HSC.out _ X.out) ?_
        rintro e w3 ⟨rfl, hx⟩
        replace X := hid (X.out.then hx)
        replace BR := hid (BR.out.keep hx)
        replace BT := hid (BT.out.keep hx)
        replace BS := hid (BS.out.keep hx)
        clear kBT0 hx kS0
        go_upto_region 6 with fail
        go_quiet (fail)
        have XQ := (ext_refl w3).draws nq
        replace X := hid (X.out.then XQ)
        replace BR := hid (BR.out.keep XQ)
        generalize w3.drewN nq = wq at *
        have q0 := BR.out.cell 0
        have q1 := BR.out.cell 1
        have f0 := BR.out.frozen 0
        have f1 := BR.out.frozen 1
        have ql := BR.out.lt
        go_wp2
        have HBF := hid (((BR.out.set 0 (.slice none 0 0)).set 1 (.slice none 0 0)).cast (cs' := #[.slice none 0 0, .slice none 0 0]) (by simp))
        have XF := hid (Ext.put (Ext.put X.out (p := ⟨w.heap.size + 1 + 1, 0, none⟩) (by simp only; omega) (.slice none 0 0)) (p := ⟨w.heap.size + 1 + 1, 1, none⟩) (by simp only; omega) (.slice none 0 0))
        refine bodyPost_ret (results_blk2 rfl _ _ (w.heap.size + 1 + 1) 25 _ _ rfl HBF.out Tryz.underlying25 rfl (by kernel_rfl)) rfl ?_
        exact ⟨_, by rw [HV.out]; rfl, by rw [HV.out, Tb.res_no HNE.out]; exact tb0_V _, XF.out⟩
    · obtain ⟨C, hC⟩ : ∃ C, C = Tb.tbck s := ⟨_, rfl⟩
      rw [← hC] at HTC2
      have HV := hid (hW.trans ((Tb.appW_bad h2).trans hC.symm))
      rw [← hC] at h2
      have HNE := hid h2
      have e1 : ((C : Int) == 0) = false := beq_eq_false_iff_ne.2 (by omega)
      have e2 : ((C : Int) != 0) = true := by simp; omega
      clear hv hb hs hbs hR hC h0 h2 hW
      go_enter Tryz.func15, Tryz.ntmps15
      go_upto_region 1 with fail
      refine wp_gen (fun w' => Ext w w' ∧ Blk w' (w.heap.size) 25 #[.slice A n c, .slice B m d] ∧ Blk w' (w.heap.size + 1) 25 #[.slice A2 n2 c2, .slice B2 m2 d2] ∧ Blk w' (w.heap.size + 1 + 1) 25 #[.slice none 0 0, .slice none 0 0]) ⟨((((ext_refl w)).new _).new _).new _, (((Blk.new _ _ _)).alloc _).alloc _, ((blk_at _ _ (by simp))).alloc _, (blk_at _ _ (by simp))⟩ ?_
      rintro wz ⟨x0, x1, x2, x3⟩
      have X : Hid (Ext w wz) := hid x0
      have BT := hid x1
      have BS := hid x2
      have BR := hid x3
      clear x0 x1 x2 x3
      have kBT0 := BT.out.cell 0
      have kBT1 := BT.out.cell 1
      go_wp2_with fail
      refine Calls.mono (HTC.out _ X.out) ?_
      rintro e w1 ⟨rfl, hx⟩
      replace X := hid (X.out.then hx)
      replace BR := hid (BR.out.keep hx)
      replace BT := hid (BT.out.keep hx)
      replace BS := hid (BS.out.keep hx)
      clear kBT0 kBT1 hx
      have kBS0 := BS.out.cell 0
      have kBS1 := BS.out.cell 1
      go_wp2_with fail
      refine Calls.mono (HTC2.out _ X.out) ?_
      rintro e w2 ⟨rfl, hx⟩
      replace X := hid (X.out.then hx)
      replace BR := hid (BR.out.keep hx)
      replace BT := hid (BT.out.keep hx)
      replace BS := hid (BS.out.keep hx)
      clear kBS0 kBS1 hx
      go_upto_region 6 with fail
      go_quiet (fail)
      have XQ := (ext_refl w2).draws nq
      replace X := hid (X.out.then XQ)
      replace BR := hid (BR.out.keep XQ)
      generalize w2.drewN nq = wq at *
      have q0 := BR.out.cell 0
      have q1 := BR.out.cell 1
      have f0 := BR.out.frozen 0
      have f1 := BR.out.frozen 1
      have ql := BR.out.lt
      go_wp2
      have HBF := hid (((BR.out.set 0 (.slice none 0 0)).set 1 (.slice none 0 0)).cast (cs' := #[.slice none 0 0, .slice none 0 0]) (by simp))
      have XF := hid (Ext.put (Ext.put X.out (p := ⟨w.heap.size + 1 + 1, 0, none⟩) (by simp only; omega) (.slice none 0 0)) (p := ⟨w.heap.size + 1 + 1, 1, none⟩) (by simp only; omega) (.slice none 0 0))
      refine bodyPost_ret (results_blk2 rfl _ _ (w.heap.size + 1 + 1) 25 _ _ rfl HBF.out Tryz.underlying25 rfl (by kernel_rfl)) rfl ?_
      exact ⟨_, by rw [HV.out]; rfl, by rw [HV.out, Tb.res_no HNE.out]; exact tb0_V _, XF.out⟩
  · obtain ⟨C, hC⟩ : ∃ C, C = Tb.tbck t := ⟨_, rfl⟩
    rw [← hC] at HTC
    have HV := hid (hR.trans ((Tb.appE_bad h0).trans hC.symm))
    rw [← hC] at h0
    have HNE := hid h0
    have e1 : ((C : Int) == 0) = false := beq_eq_false_iff_ne.2 (by omega)
    have e2 : ((C : Int) != 0) = true := by simp; omega
    clear hv hb hs hbs hR hC h0
    go_enter Tryz.func15, Tryz.ntmps15
    go_upto_region 1 with fail
    refine wp_gen (fun w' => Ext w w' ∧ Blk w' (w.heap.size) 25 #[.slice A n c, .slice B m d] ∧ Blk w' (w.heap.size + 1) 25 #[.slice A2 n2 c2, .slice B2 m2 d2] ∧ Blk w' (w.heap.size + 1 + 1) 25 #[.slice none 0 0, .slice none 0 0]) ⟨((((ext_refl w)).new _).new _).new _, (((Blk.new _ _ _)).alloc _).alloc _, ((blk_at _ _ (by simp))).alloc _, (blk_at _ _ (by simp))⟩ ?_
    rintro wz ⟨x0, x1, x2, x3⟩
    have X : Hid (Ext w wz) := hid x0
    have BT := hid x1
    have BS := hid x2
    have BR := hid x3
    clear x0 x1 x2 x3
    have kBT0 := BT.out.cell 0
    have kBT1 := BT.out.cell 1
    go_wp2_with fail
    refine Calls.mono (HTC.out _ X.out) ?_
    rintro e w1 ⟨rfl, hx⟩
    replace X := hid (X.out.then hx)
    replace BR := hid (BR.out.keep hx)
    replace BT := hid (BT.out.keep hx)
    replace BS := hid (BS.out.keep hx)
    clear kBT0 kBT1 hx
    go_upto_region 6 with fail
    go_quiet (fail)
    have XQ := (ext_refl w1).draws nq
    replace X := hid (X.out.then XQ)
    replace BR := hid (BR.out.keep XQ)
    generalize w1.drewN nq = wq at *
    have q0 := BR.out.cell 0
    have q1 := BR.out.cell 1
    have f0 := BR.out.frozen 0
    have f1 := BR.out.frozen 1
    have ql := BR.out.lt
    go_wp2
    have HBF := hid (((BR.out.set 0 (.slice none 0 0)).set 1 (.slice none 0 0)).cast (cs' := #[.slice none 0 0, .slice none 0 0]) (by simp))
    have XF := hid (Ext.put (Ext.put X.out (p := ⟨w.heap.size + 1 + 1, 0, none⟩) (by simp only; omega) (.slice none 0 0)) (p := ⟨w.heap.size + 1 + 1, 1, none⟩) (by simp only; omega) (.slice none 0 0))
    refine bodyPost_ret (results_blk2 rfl _ _ (w.heap.size + 1 + 1) 25 _ _ rfl HBF.out Tryz.underlying25 rfl (by kernel_rfl)) rfl ?_
    exact ⟨_, by rw [HV.out]; rfl, by rw [HV.out, Tb.res_no HNE.out]; exact tb0_V _, XF.out⟩
end Go.Proofs.YtolhifnlahllnaaGreatDoor
