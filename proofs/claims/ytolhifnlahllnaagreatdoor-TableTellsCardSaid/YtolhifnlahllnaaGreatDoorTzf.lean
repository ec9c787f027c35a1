/- Tables, the document: DropOf: walk (printed by gen_tzf.py). -/
import Derived.Test.YtolhifnlahllnaaGreatDoorTze
namespace Go.Proofs.YtolhifnlahllnaaGreatDoor
open Go.RowKit Hy
theorem str_ne {s t : ByteArray} (h : s ≠ t) : (s.toList != t.toList) = true := by
  have := Tb.tl_ne h
  unfold bne; rw [this]; rfl
theorem str_eq (s : ByteArray) : (s.toList != s.toList) = false := by simp
set_option maxHeartbeats 6400000 in
set_option maxRecDepth 100000 in
/-- the document's table without a column -/
theorem dropOf_any (t : Tb.Tab) (s : ByteArray) (v : Value) (w : World) (hv : TbV w v t) (hb : TbB t) :
    Calls Tryz.prog 27 #[v, .string s] w fun e w' => ∃ v', e = .returned (.tuple #[v', .int .i64 ((Tb.dropE t s : Nat) : Int)]) ∧ TbV w' v' (Tb.res (Tb.dropE t s) (Tb.dropT t s)) ∧ Ext w w' := by
  have HV0 := hid hv
  have HB := hid hb
  obtain ⟨A, n, c, B, m, d, rfl⟩ := hv.shape
  have HTC := hid (fun wx (hx : Ext w wx) => tabCheck_any t _ wx (HV0.out.keep hx) HB.out)
  obtain ⟨R, hR⟩ : ∃ R, R = Tb.dropE t s := ⟨_, rfl⟩
  rw [← hR]
  by_cases h0 : Tb.tbck t = 0
  · have hrt := (Tb.right_iff t).1 h0
    rw [h0] at HTC
    obtain ⟨L, hn, hm, h1, h2, hL, hok, hc⟩ := tb_parts hv
    have h6 := hrt.six
    have hlen := hrt.len
    have HAT := hid (fun wy (hx : Ext w wy) => show Calls Tryz.prog 31 #[.slice A n c, .string s] wy fun e w' => e = .returned (.int .i64 (Tb.ixc t.1 s 0)) ∧ Ext wy w' from Calls.mono (colAt_any t.1 s A n c wy hn.symm (h1.keep hx) (by omega)) (by rintro e w' ⟨h, rfl⟩; exact ⟨h, ext_refl _⟩))
    obtain ⟨ix, hix⟩ : ∃ x, x = Tb.ixc t.1 s 0 := ⟨_, rfl⟩
    rw [← hix] at HAT
    by_cases hneg : ix < 0
    · have HV := hid (hR.trans (Tb.dropE_none h0 (by rw [← hix]; exact hneg)))
      have HNE := hid (show (5 : Nat) ≠ 0 by decide)
      clear hv hb hR h0 hrt hn hm h1 h2 hL hok hc h6 hlen hix
      go_enter Tryz.func27, Tryz.ntmps27
      go_upto_region 1 with fail
      refine wp_gen (fun w' => Ext w w' ∧ Blk w' (w.heap.size) 25 #[.slice A n c, .slice B m d] ∧ Blk w' (w.heap.size + 1) 25 #[.slice none 0 0, .slice none 0 0]) ⟨(((ext_refl w)).new _).new _, ((Blk.new _ _ _)).alloc _, (blk_at _ _ (by simp))⟩ ?_
      rintro wz ⟨x0, x1, x2⟩
      have X : Hid (Ext w wz) := hid x0
      have BT := hid x1
      have BR := hid x2
      clear x0 x1 x2
      have kBT0 := BT.out.cell 0
      have kBT1 := BT.out.cell 1
      go_wp2_with fail
      refine Calls.mono (HTC.out _ X.out) ?_
      rintro e w0 ⟨rfl, hx⟩
      replace X := hid (X.out.then hx)
      replace BR := hid (BR.out.keep hx)
      replace BT := hid (BT.out.keep hx)
      clear kBT0 kBT1 hx
      have kBT0 := BT.out.cell 0
      have kBT1 := BT.out.cell 1
      go_wp2_with fail
      refine Calls.mono (HAT.out _ X.out) ?_
      rintro e w1 ⟨rfl, hx⟩
      replace X := hid (X.out.then hx)
      replace BR := hid (BR.out.keep hx)
      replace BT := hid (BT.out.keep hx)
      clear kBT0 kBT1 hx
      have q0 := BR.out.cell 0
      have q1 := BR.out.cell 1
      have f0 := BR.out.frozen 0
      have f1 := BR.out.frozen 1
      have ql := BR.out.lt
      go_wp2
      have HBF := hid (((BR.out.set 0 (.slice none 0 0)).set 1 (.slice none 0 0)).cast (cs' := #[.slice none 0 0, .slice none 0 0]) (by simp))
      have XF := hid (Ext.put (Ext.put X.out (p := ⟨w.heap.size + 1, 0, none⟩) (by simp only; omega) (.slice none 0 0)) (p := ⟨w.heap.size + 1, 1, none⟩) (by simp only; omega) (.slice none 0 0))
      refine bodyPost_ret (results_blk2 rfl _ _ (w.heap.size + 1) 25 _ _ rfl HBF.out Tryz.underlying25 rfl (by kernel_rfl)) rfl ?_
      exact ⟨_, by rw [HV.out]; rfl, by rw [HV.out, Tb.res_no HNE.out]; exact tb0_V _, XF.out⟩
    · have hmem := Tb.not_neg (l := t.1) (s := s) (by rw [← hix]; exact hneg)
      have HV := hid (show R = 0 from hR.trans (Tb.dropE_ok.2 ⟨hrt, hmem⟩))
      have HLAW := hid (Tb.drop_law hrt hmem)
      have HNN := hid hn; have HM := hid hm; have HR := hid hrt
      have HA := hid h1; have HBR := hid h2; have HLM := hid hL; have HOK := hid hok
      have hge : (0 : Int) ≤ ix := by omega
      have hnI : (n : Int) ≤ 6 := by omega
      have HN6 := hid (show n ≤ 6 by omega)
      clear hv hb hR h0 hrt hn hm h1 h2 hL hok hc h6 hlen hix hneg hmem
      go_enter Tryz.func27, Tryz.ntmps27
      go_upto_region 1 with fail
      refine wp_gen (fun w' => Ext w w' ∧ Blk w' (w.heap.size) 25 #[.slice A n c, .slice B m d] ∧ Blk w' (w.heap.size + 1) 25 #[.slice none 0 0, .slice none 0 0]) ⟨(((ext_refl w)).new _).new _, ((Blk.new _ _ _)).alloc _, (blk_at _ _ (by simp))⟩ ?_
      rintro wz ⟨x0, x1, x2⟩
      have X : Hid (Ext w wz) := hid x0
      have BT := hid x1
      have BR := hid x2
      clear x0 x1 x2
      have kBT0 := BT.out.cell 0
      have kBT1 := BT.out.cell 1
      go_wp2_with fail
      refine Calls.mono (HTC.out _ X.out) ?_
      rintro e w0 ⟨rfl, hx⟩
      replace X := hid (X.out.then hx)
      replace BR := hid (BR.out.keep hx)
      replace BT := hid (BT.out.keep hx)
      clear kBT0 kBT1 hx
      have kBT0 := BT.out.cell 0
      have kBT1 := BT.out.cell 1
      go_wp2_with fail
      refine Calls.mono (HAT.out _ X.out) ?_
      rintro e w1 ⟨rfl, hx⟩
      replace X := hid (X.out.then hx)
      replace BR := hid (BR.out.keep hx)
      replace BT := hid (BT.out.keep hx)
      clear kBT0 kBT1 hx
      go_wp2
      have F0 := hid (Blk.new w1 25 #[.slice none 0 0, .slice none 0 0])
      have E0 := hid (Ext.new (ext_refl w1) (.cells #[.slice none 0 0, .slice none 0 0] 25))
      go_loopw [8] (fun ii wr => ∃ k : Nat, k ≤ n ∧ ii = .int .i64 k ∧ ∃ q A' c' B' d' L', Hid (Blk wr w1.heap.size 25 #[.slice A' q c', .slice B' q d']) ∧ Hid (wr.ownsRow w1.heap.size 39 2 (.slice A' q c') q (ens (Tb.wo s (t.1.take k)))) ∧ Hid (wr.ownsRow w1.heap.size 45 1 (.slice B' q d') q (rws' L')) ∧ Hid (L'.map (·.2) = Tb.wod s (t.1.take k) (t.2.take k)) ∧ Hid (∀ x ∈ L', x ∈ L) ∧ Hid (Ext w1 wr) ∧ Hid (q = (Tb.wo s (t.1.take k)).length)) (fun ii _ => n - (intOf ii).toNat)
      case atStart => exact ⟨0, Nat.zero_le _, rfl, 0, none, 0, none, 0, [], F0, hid (World.ownsRow_nil _ _ _ _), hid (World.ownsRow_nil _ _ _ _), hid rfl, hid (fun x hx => absurd hx List.not_mem_nil), E0, hid rfl⟩
      case round =>
        obtain ⟨k, hk, rfl, q, A', c', B', d', L', HF, Q1, Q2, HL', HR', HX, HQ⟩ := hrel
        have kT0 := (BT.out.keep HX.out).cell 0
        have kT1 := (BT.out.keep HX.out).cell 1
        by_cases hlt : k < n
        · have hka : k < t.1.length := by rw [← HNN.out]; exact hlt
          have hkd : k < t.2.length := by rw [← HR.out.len]; exact hka
          have hLl : L.length = t.2.length := by rw [← HLM.out, List.length_map]
          have hkL : k < L.length := by rw [hLl]; exact hkd
          have hkm : k < m := by rw [HM.out]; exact hkd
          have hdk : L[k].2 = t.2[k] := by simp [← HLM.out]
          obtain ⟨b2, o2, e2, l2, c2⟩ := HA.out.ents k hka
          obtain ⟨b5, o5, e5, l5, c5⟩ := HBR.out.rows k hkL
          have XW := hid (X.out.then HX.out)
          have HD := hid (⟨ext_cell XW.out (c2 k hka).1, ext_cell XW.out (c2 k hka).2⟩ : _ ∧ _)
          have HRC := hid (ext_cell X.out (c5 k hkL))
          have HRL := hid (List.getElem_mem hkL)
          have HQ6 := hid (show q ≤ 6 by
            have h1 := HQ.out
            have h2 := Tb.wo_len s (t.1.take k)
            have h3 := HN6.out
            rw [List.length_take] at h2
            omega)
          have hakn : (k : Int) < (n : Int) := by omega
          have hakmI : (k : Int) < (m : Int) := by omega
          have WN1 := hid (fun h => Tb.wo_no (s := s) hka h)
          have WN2 := hid (fun h => Tb.wod_no (s := s) hka hkd h)
          have WY1 := hid (fun h => Tb.wo_yes (s := s) hka h)
          have WY2 := hid (fun h => Tb.wod_yes (s := s) hka hkd h)
          rw [← hdk] at WY2
          have he2 := hid e2
          have he5 := hid e5
          generalize t.1[k] = ce at *
          obtain ⟨cs, ck⟩ := ce
          simp only at HD WN1 WN2 WY1 WY2
          generalize L[k] = le at *
          obtain ⟨⟨la, ln, lq⟩, lz⟩ := le
          simp only at HRC WY2
          clear c2 l2 c5 l5 e2 e5 hka hkd hLl hkL hkm hdk hlt
          have e2 := he2.out
          have e5 := he5.out
          subst e2 e5
          by_cases hs : cs = s
          · have W1 := hid (WN1.out hs)
            have W2 := hid (WN2.out hs)
            have g2 := str_eq s
            have g1 : (s.toList == s.toList) = true := by simp
            subst hs
            have d0 := HD.out.1
            clear WN1 WN2 WY1 WY2
            go_wp2
            go_roundw
            case rel => exact ⟨k + 1, by omega, by go_num, q, A', c', B', d', L', HF, hid (by rw [W1.out]; exact Q1.out), Q2, hid (by rw [W2.out]; exact HL'.out), HR', HX, hid (by rw [W1.out]; exact HQ.out)⟩
            case measure => simp [intOf] <;> omega
          · have HSC := hid (WY1.out hs)
            have HSD := hid (WY2.out hs)
            have g2 := str_ne hs
            have g1 := Tb.tl_ne hs
            have d0 := HD.out.1
            clear WN1 WN2 WY1 WY2 hs
            go_upto_region 11 with fail
            clear kT0 kT1 d0 g1 g2
            have kn0 := True.intro
            have a0 := (BT.out.keep HX.out).cell 0
            have v0 := HF.out.cell 0
            have d0 := HD.out.1
            have d1 := HD.out.2
            have a0r := cell_regrown a0
            have v0r := cell_regrown v0
            have d0r := cell_regrown d0
            have d1r := cell_regrown d1
            go_upto_region 11 with fail
            refine wp_region_late [8, 10] [9] [(0, true), (1, true), (2, true), (3, true), (4, true), (5, true), (6, true), (7, false), (8, false), (9, true), (10, false)] (by kernel_rfl) (by kernel_rfl) (fun _ _ _ _ _ h => h) (by kernel_rfl) (by rfl) ?_
            simp only [List.filterMap_cons, List.filterMap_nil, List.getElem?_toArray, List.getElem?_cons_zero, List.getElem?_cons_succ, Option.map_some, List.contains_cons, List.contains_nil, Nat.reduceBEq, Bool.or_false, Bool.or_true]
            repeat ((first | refine wpL_val (by rfl) ?_ | refine wpL_pure (by rfl) ?_); intro K hK; go_big_quiet_op; go_big_quiet_on)
            refine wpL_do (by rfl) ?_
            intro K hK
            go_simp
            have J1 := hid (Ext.new (Ext.draw (ext_refl wr)) (.cells #[.string cs, .int .i64 ck] 39))
            refine hK _ _ J1.out ?_
            clear K hK
            refine wpL_late (by rfl) ?_
            intro K hK
            refine wp_app (.tmp 40) (.tmp 46) rowCo rfl _ q (ens (Tb.wo s (t.1.take k))) rfl (own_ext Q1.out J1.out) _ 1 (ens [(cs, ck)]) rfl (Src.rd Tryz.underlying22 _ 1 1 _ rfl (rd_lit rfl rfl) (ens_one _) (fun h => by cases h)) (by have := HQ6.out; simp only [maxLen] at *; omega) (by have := HQ6.out; omega) (Nat.le_trans HX.out.size J1.out.size) ?_
            intro v2 w8 hown8 hgrow hat hbel
            have E2 := own_ext Q1.out J1.out
            have M1 := hid hown8
            have MB := hid (Blk.grw (HF.out.keep J1.out) hgrow (own_nblk E2 (HF.out.keep J1.out) (by decide)))
            have M2 := hid ((own_ext Q2.out J1.out).kept hgrow (own_ne (own_ext Q2.out J1.out) E2 (by decide)))
            have MX := hid (Below.trans (Ext.then HX.out J1.out) hbel)
            obtain ⟨A8, c8, rfl, _⟩ := Rd.owned hown8
            have q0 := MB.out.cell 0
            have f0 := MB.out.frozen 0
            clear hown8 hgrow hat hbel E2
            refine hK _ _ ?_
            clear K hK a0 a0r v0 v0r d0 d1 d0r d1r
            simp only [Act.put, List.setIfInBounds_toArray, List.set_cons_zero, List.set_cons_succ]
            repeat (refine wpL_pure (by rfl) ?_; intro K hK; go_big_quiet_op; go_big_quiet_on)
            refine wpL_late (by rfl) ?_
            intro K hK
            go_simp
            refine hK _ _ ?_
            clear K hK
            refine wpL_nil ?_
            have B9 := hid ((MB.out.set 0 (.slice A8 (q + 1) c8)).cast (cs' := #[.slice A8 (q + 1) c8, .slice B' q d']) (by simp))
            have V1 := hid (own_put M1.out (p := ⟨w1.heap.size, 0, none⟩) (own_nblk M1.out MB.out (by decide)) (.slice A8 (q + 1) c8))
            have V2 := hid (own_put M2.out (p := ⟨w1.heap.size, 0, none⟩) (own_nblk M2.out MB.out (by decide)) (.slice A8 (q + 1) c8))
            have VX := hid (Below.setCell MX.out (p := ⟨w1.heap.size, 0, none⟩) (Nat.le_refl _) (.slice A8 (q + 1) c8))
            clear q0 f0
            generalize w8.setCell ⟨w1.heap.size, 0, none⟩ (.slice A8 (q + 1) c8) = wt at *
            have a1 := (BT.out.keep VX.out).cell 1
            have v1 := B9.out.cell 1
            have r1 := ext_cell VX.out HRC.out
            have a1r := cell_regrown a1
            have v1r := cell_regrown v1
            have r1r := cell_regrown r1
            go_upto_region 12 with fail
            refine wp_region_late [8, 10] [9] [(0, true), (1, true), (2, true), (3, true), (4, true), (5, true), (6, true), (7, false), (8, false), (9, true), (10, false)] (by kernel_rfl) (by kernel_rfl) (fun _ _ _ _ _ h => h) (by kernel_rfl) (by rfl) ?_
            simp only [List.filterMap_cons, List.filterMap_nil, List.getElem?_toArray, List.getElem?_cons_zero, List.getElem?_cons_succ, Option.map_some, List.contains_cons, List.contains_nil, Nat.reduceBEq, Bool.or_false, Bool.or_true]
            repeat ((first | refine wpL_val (by rfl) ?_ | refine wpL_pure (by rfl) ?_); intro K hK; go_big_quiet_op; go_big_quiet_on)
            refine wpL_do (by rfl) ?_
            intro K hK
            go_simp
            have J2 := hid (Ext.new (Ext.draw (ext_refl wt)) (.cells #[.slice la ln lq] 45))
            refine hK _ _ J2.out ?_
            clear K hK
            refine wpL_late (by rfl) ?_
            intro K hK
            refine wp_app (.tmp 50) (.tmp 56) rowRo rfl _ q (rws' L') rfl (own_ext V2.out J2.out) _ 1 (rws' [((la, ln, lq), lz)]) rfl (Src.rd Tryz.underlying23 _ 1 1 _ rfl (rd_lit rfl rfl) (rws_one _) (fun h => by cases h)) (by have := HQ6.out; simp only [maxLen] at *; omega) (by have := HQ6.out; omega) (Nat.le_trans VX.out.size J2.out.size) ?_
            intro v2 w7 hown8 hgrow hat hbel
            have E2 := own_ext V2.out J2.out
            have K2 := hid hown8
            have KB := hid (Blk.grw (B9.out.keep J2.out) hgrow (own_nblk E2 (B9.out.keep J2.out) (by decide)))
            have K1 := hid ((own_ext V1.out J2.out).kept hgrow (own_ne (own_ext V1.out J2.out) E2 (by decide)))
            have KX := hid (Below.trans (Ext.then VX.out J2.out) hbel)
            obtain ⟨B8, d8, rfl, _⟩ := Rd.owned hown8
            have q1 := KB.out.cell 1
            have f1 := KB.out.frozen 1
            clear hown8 hgrow hat hbel E2
            refine hK _ _ ?_
            clear K hK a1 a1r v1 v1r r1 r1r
            simp only [Act.put, List.setIfInBounds_toArray, List.set_cons_zero, List.set_cons_succ]
            repeat (refine wpL_pure (by rfl) ?_; intro K hK; go_big_quiet_op; go_big_quiet_on)
            refine wpL_late (by rfl) ?_
            intro K hK
            go_simp
            refine hK _ _ ?_
            clear K hK
            refine wpL_nil ?_
            go_wp2
            go_roundw
            case rel =>
              refine ⟨k + 1, by omega, by go_num, q + 1, A8, c8, B8, d8, L' ++ [((la, ln, lq), lz)], hid ((KB.out.set 1 (.slice B8 (q + 1) d8)).cast (by simp)), hid ?_, hid ?_, hid ?_, hid ?_, hid ?_, hid ?_⟩
              · rw [HSC.out, ens_app]; exact own_put K1.out (p := ⟨w1.heap.size, 1, none⟩) (own_nblk K1.out KB.out (by decide)) _
              · rw [rws_app]; exact own_put K2.out (p := ⟨w1.heap.size, 1, none⟩) (own_nblk K2.out KB.out (by decide)) _
              · rw [HSD.out, List.map_append, HL'.out]; rfl
              · intro x hx
                rcases List.mem_append.1 hx with hx | hx
                · exact HR'.out x hx
                · simp only [List.mem_cons, List.not_mem_nil, or_false] at hx
                  rw [hx]; exact HRL.out
              · exact Below.setCell KX.out (p := ⟨w1.heap.size, 1, none⟩) (Nat.le_refl _) _
              · rw [HSC.out, List.length_append, ← HQ.out]; rfl
            case measure => simp [intOf] <;> omega
        · obtain rfl : k = n := by omega
          have ht1 : t.1.take k = t.1 := List.take_of_length_le (by rw [← HNN.out]; exact Nat.le_refl _)
          have ht2 : t.2.take k = t.2 := List.take_of_length_le (by rw [← HR.out.len, ← HNN.out]; exact Nat.le_refl _)
          rw [ht1] at Q1 HQ
          rw [ht1, ht2] at HL'
          have HQ2 := hid (show (Tb.wod s t.1 t.2).length = q by rw [Tb.wo_zip s t.1 t.2 HR.out.len]; exact HQ.out.symm)
          clear ht1 ht2
          have o0 := HF.out.cell 0
          have o1 := HF.out.cell 1
          have q0 := (BR.out.keep HX.out).cell 0
          have q1 := (BR.out.keep HX.out).cell 1
          have f0 := (BR.out.keep HX.out).frozen 0
          have f1 := (BR.out.keep HX.out).frozen 1
          have BRl := hid BR.out.lt
          have BR2 := hid (BR.out.keep HX.out)
          have XW := hid (X.out.then HX.out)
          clear hlt
          go_wp2
          have HBF := hid (((BR2.out.set 0 (.slice A' q c')).set 1 (.slice B' q d')).cast (cs' := #[.slice A' q c', .slice B' q d']) (by simp))
          have XF := hid (Ext.put (Ext.put XW.out (p := ⟨w.heap.size + 1, 0, none⟩) (by simp only; omega) (.slice A' q c')) (p := ⟨w.heap.size + 1, 1, none⟩) (by simp only; omega) (.slice B' q d'))
          refine bodyPost_ret (results_blk2 rfl _ _ (w.heap.size + 1) 25 _ _ rfl HBF.out Tryz.underlying25 rfl (by kernel_rfl)) rfl ?_
          have e1 : ∀ {e : TypeId} {size : Nat} {u : Value} {q : Nat} {xs : List Value}, wr.ownsRow w1.heap.size e size u q xs → ((wr.setCell ⟨w.heap.size + 1, 0, none⟩ (.slice A' q c')).setCell ⟨w.heap.size + 1, 1, none⟩ (.slice B' q d')).ownsRow w1.heap.size e size u q xs := fun h => own_past (own_past h (p := ⟨w.heap.size + 1, 0, none⟩) BRl.out _) (p := ⟨w.heap.size + 1, 1, none⟩) BRl.out _
          obtain ⟨rA, zA, cA⟩ := own_rd (e1 Q1.out)
          obtain ⟨rB, zB, cB⟩ := own_rd (e1 Q2.out)
          refine ⟨_, by rw [HV.out]; rfl, ?_, XF.out⟩
          rw [HV.out, Tb.res_ok]
          rw [← HLAW.out]
          exact ⟨A', c', B', d', L', by simp only [HQ2.out, ← HQ.out], rA, rB, HL'.out, fun x hx => (HOK.out x (HR'.out x hx)).keep XF.out, fun h => by simp only [← HQ.out]; exact zA h, fun h => by simp only [HQ2.out]; exact zB h, by simp only [← HQ.out]; exact cA⟩
  · obtain ⟨C, hC⟩ : ∃ C, C = Tb.tbck t := ⟨_, rfl⟩
    rw [← hC] at HTC
    have HV := hid (hR.trans ((Tb.dropE_bad h0).trans hC.symm))
    rw [← hC] at h0
    have HNE := hid h0
    have e1 : ((C : Int) == 0) = false := beq_eq_false_iff_ne.2 (by omega)
    have e2 : ((C : Int) != 0) = true := by simp; omega
    clear hv hb hR hC h0
    go_enter Tryz.func27, Tryz.ntmps27
    go_upto_region 1 with fail
    refine wp_gen (fun w' => Ext w w' ∧ Blk w' (w.heap.size) 25 #[.slice A n c, .slice B m d] ∧ Blk w' (w.heap.size + 1) 25 #[.slice none 0 0, .slice none 0 0]) ⟨(((ext_refl w)).new _).new _, ((Blk.new _ _ _)).alloc _, (blk_at _ _ (by simp))⟩ ?_
    rintro wz ⟨x0, x1, x2⟩
    have X : Hid (Ext w wz) := hid x0
    have BT := hid x1
    have BR := hid x2
    clear x0 x1 x2
    have kBT0 := BT.out.cell 0
    have kBT1 := BT.out.cell 1
    go_wp2_with fail
    refine Calls.mono (HTC.out _ X.out) ?_
    rintro e w1 ⟨rfl, hx⟩
    replace X := hid (X.out.then hx)
    replace BR := hid (BR.out.keep hx)
    replace BT := hid (BT.out.keep hx)
    clear kBT0 kBT1 hx
    have q0 := BR.out.cell 0
    have q1 := BR.out.cell 1
    have f0 := BR.out.frozen 0
    have f1 := BR.out.frozen 1
    have ql := BR.out.lt
    go_wp2
    have HBF := hid (((BR.out.set 0 (.slice none 0 0)).set 1 (.slice none 0 0)).cast (cs' := #[.slice none 0 0, .slice none 0 0]) (by simp))
    have XF := hid (Ext.put (Ext.put X.out (p := ⟨w.heap.size + 1, 0, none⟩) (by simp only; omega) (.slice none 0 0)) (p := ⟨w.heap.size + 1, 1, none⟩) (by simp only; omega) (.slice none 0 0))
    refine bodyPost_ret (results_blk2 rfl _ _ (w.heap.size + 1) 25 _ _ rfl HBF.out Tryz.underlying25 rfl (by kernel_rfl)) rfl ?_
    exact ⟨_, by rw [HV.out]; rfl, by rw [HV.out, Tb.res_no HNE.out]; exact tb0_V _, XF.out⟩
end Go.Proofs.YtolhifnlahllnaaGreatDoor
