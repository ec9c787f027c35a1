/- Tables, the document: RenameOf: walk (printed by gen_tzg.py). -/
import Derived.Test.YtolhifnlahllnaaGreatDoorTzf
namespace Go.Proofs.YtolhifnlahllnaaGreatDoor
open Go.RowKit Hy
set_option maxHeartbeats 6400000 in
set_option maxRecDepth 100000 in
/-- the document's table with a column named anew -/
theorem renOf_any (t : Tb.Tab) (s n2 : ByteArray) (v : Value) (w : World) (hv : TbV w v t) (hb : TbB t) (hsz : n2.size ≤ 140737488355328) :
    Calls Tryz.prog 28 #[v, .string s, .string n2] w fun e w' => ∃ v', e = .returned (.tuple #[v', .int .i64 ((Tb.renE t s n2 : Nat) : Int)]) ∧ TbV w' v' (Tb.res (Tb.renE t s n2) (Tb.renT t s n2)) ∧ Ext w w' := by
  have HV0 := hid hv
  have HB := hid hb
  obtain ⟨A, n, c, B, m, d, rfl⟩ := hv.shape
  have HTC := hid (fun wx (hx : Ext w wx) => tabCheck_any t _ wx (HV0.out.keep hx) HB.out)
  obtain ⟨R, hR⟩ : ∃ R, R = Tb.renE t s n2 := ⟨_, rfl⟩
  rw [← hR]
  by_cases h0 : Tb.tbck t = 0
  · have hrt := (Tb.right_iff t).1 h0
    rw [h0] at HTC
    obtain ⟨L, hn, hm, h1, h2, hL, hok, hc⟩ := tb_parts hv
    have hzb : B = none → t.2.length = 0 := by
      obtain ⟨A', c', B', d', L', e, _, _, _, _, _, q6, _⟩ := hv
      simp only [Value.agg.injEq, Array.mk.injEq, List.cons.injEq, Value.slice.injEq] at e
      rw [e.2.1.1]; exact q6
    have h6 := hrt.six
    have HAT := hid (fun (s : ByteArray) wy (hx : Ext w wy) => show Calls Tryz.prog 31 #[.slice A n c, .string s] wy fun e w' => e = .returned (.int .i64 (Tb.ixc t.1 s 0)) ∧ Ext wy w' from Calls.mono (colAt_any t.1 s A n c wy hn.symm (h1.keep hx) (by omega)) (by rintro e w' ⟨h, rfl⟩; exact ⟨h, ext_refl _⟩))
    have HNM := hid (fun wx => nameCheck_any n2 wx hsz)
    have HA1 := hid (HAT.out s)
    have HA2 := hid (HAT.out n2)
    obtain ⟨ix, hix⟩ : ∃ x, x = Tb.ixc t.1 s 0 := ⟨_, rfl⟩
    obtain ⟨iy, hiy⟩ : ∃ x, x = Tb.ixc t.1 n2 0 := ⟨_, rfl⟩
    rw [← hix] at HA1
    rw [← hiy] at HA2
    by_cases hneg : ix < 0
    · have HV := hid (hR.trans (Tb.renE_none h0 (by rw [← hix]; exact hneg)))
      have HNE := hid (show (5 : Nat) ≠ 0 by decide)
      clear hv hb hR h0 hrt hn hm h1 h2 hL hok hc h6 hix hiy hsz hzb 
      go_enter Tryz.func28, Tryz.ntmps28
      go_upto_region 1 with fail
      refine wp_gen (fun w' => Ext w w' ∧ Blk w' (w.heap.size) 25 #[.slice A n c, .slice B m d] ∧ Blk w' (w.heap.size + 1) 25 #[.slice none 0 0, .slice none 0 0]) ⟨(((ext_refl w)).new _).new _, ((Blk.new _ _ _)).alloc _, (blk_at _ _ (by simp))⟩ ?_
      rintro wz ⟨x0, x1, x2⟩
      have X : Hid (Ext w wz) := hid x0
      have BT := hid x1
      have BR := hid x2
      clear x0 x1 x2
      have kBT0 := BT.out.cell 0
      have kBT1 := BT.out.cell 1
      go_wp2_with fail
      refine Calls.mono (HTC.out _ X.out) ?_
      rintro e w0 ⟨rfl, hx⟩
      replace X := hid (X.out.then hx)
      replace BR := hid (BR.out.keep hx)
      replace BT := hid (BT.out.keep hx)
      clear kBT0 kBT1 hx
      have kBT0 := BT.out.cell 0
      have kBT1 := BT.out.cell 1
      go_wp2_with fail
      refine Calls.mono (HA1.out _ X.out) ?_
      rintro e w1 ⟨rfl, hx⟩
      replace X := hid (X.out.then hx)
      replace BR := hid (BR.out.keep hx)
      replace BT := hid (BT.out.keep hx)
      clear kBT0 kBT1 hx
      have q0 := BR.out.cell 0
      have q1 := BR.out.cell 1
      have f0 := BR.out.frozen 0
      have f1 := BR.out.frozen 1
      have ql := BR.out.lt
      go_wp2
      have HBF := hid (((BR.out.set 0 (.slice none 0 0)).set 1 (.slice none 0 0)).cast (cs' := #[.slice none 0 0, .slice none 0 0]) (by simp))
      have XF := hid (Ext.put (Ext.put X.out (p := ⟨w.heap.size + 1, 0, none⟩) (by simp only; omega) (.slice none 0 0)) (p := ⟨w.heap.size + 1, 1, none⟩) (by simp only; omega) (.slice none 0 0))
      refine bodyPost_ret (results_blk2 rfl _ _ (w.heap.size + 1) 25 _ _ rfl HBF.out Tryz.underlying25 rfl (by kernel_rfl)) rfl ?_
      exact ⟨_, by rw [HV.out]; rfl, by rw [HV.out, Tb.res_no HNE.out]; exact tb0_V _, XF.out⟩
    · have hng : ¬ Tb.ixc t.1 s 0 < 0 := by rw [← hix]; exact hneg
      have hge : (0 : Int) ≤ ix := by omega
      cases hnm : Nm.nm n2.data.toList with
      | false =>
        have HV := hid (hR.trans (Tb.renE_name h0 hng hnm))
        have HNE := hid (show (1 : Nat) ≠ 0 by decide)
        rw [hnm] at HNM
        clear hv hb hR h0 hrt hn hm h1 h2 hL hok hc h6 hix hiy hsz hzb hng hneg hnm
        go_enter Tryz.func28, Tryz.ntmps28
        go_upto_region 1 with fail
        refine wp_gen (fun w' => Ext w w' ∧ Blk w' (w.heap.size) 25 #[.slice A n c, .slice B m d] ∧ Blk w' (w.heap.size + 1) 25 #[.slice none 0 0, .slice none 0 0]) ⟨(((ext_refl w)).new _).new _, ((Blk.new _ _ _)).alloc _, (blk_at _ _ (by simp))⟩ ?_
        rintro wz ⟨x0, x1, x2⟩
        have X : Hid (Ext w wz) := hid x0
        have BT := hid x1
        have BR := hid x2
        clear x0 x1 x2
        have kBT0 := BT.out.cell 0
        have kBT1 := BT.out.cell 1
        go_wp2_with fail
        refine Calls.mono (HTC.out _ X.out) ?_
        rintro e w0 ⟨rfl, hx⟩
        replace X := hid (X.out.then hx)
        replace BR := hid (BR.out.keep hx)
        replace BT := hid (BT.out.keep hx)
        clear kBT0 kBT1 hx
        have kBT0 := BT.out.cell 0
        have kBT1 := BT.out.cell 1
        go_wp2_with fail
        refine Calls.mono (HA1.out _ X.out) ?_
        rintro e w1 ⟨rfl, hx⟩
        replace X := hid (X.out.then hx)
        replace BR := hid (BR.out.keep hx)
        replace BT := hid (BT.out.keep hx)
        clear kBT0 kBT1 hx
        go_wp2_with fail
        refine Calls.mono (HNM.out _) ?_
        rintro e wx ⟨rfl, rfl⟩
        have q0 := BR.out.cell 0
        have q1 := BR.out.cell 1
        have f0 := BR.out.frozen 0
        have f1 := BR.out.frozen 1
        have ql := BR.out.lt
        go_wp2
        have HBF := hid (((BR.out.set 0 (.slice none 0 0)).set 1 (.slice none 0 0)).cast (cs' := #[.slice none 0 0, .slice none 0 0]) (by simp))
        have XF := hid (Ext.put (Ext.put X.out (p := ⟨w.heap.size + 1, 0, none⟩) (by simp only; omega) (.slice none 0 0)) (p := ⟨w.heap.size + 1, 1, none⟩) (by simp only; omega) (.slice none 0 0))
        refine bodyPost_ret (results_blk2 rfl _ _ (w.heap.size + 1) 25 _ _ rfl HBF.out Tryz.underlying25 rfl (by kernel_rfl)) rfl ?_
        exact ⟨_, by rw [HV.out]; rfl, by rw [HV.out, Tb.res_no HNE.out]; exact tb0_V _, XF.out⟩
      | true =>
        rw [hnm] at HNM
        by_cases hne : n2 = s
        · have HV := hid (show R = 0 from hR.trans (Tb.renE_ok.2 ⟨hrt, Tb.not_neg hng, hnm, .inl hne⟩))
          have g9 : (n2.toList != s.toList) = false := by rw [hne]; exact str_eq s
          have g8 : (n2.toList == s.toList) = true := by rw [hne]; simp
          have HLAW := hid (Tb.ren_law (n := n2) hrt (Tb.not_neg hng))
          have HNN := hid hn; have HM := hid hm
          have HA := hid h1; have HBR := hid h2; have HLM := hid hL; have HOK := hid hok
          have HZB := hid hzb
          have hnI : (n : Int) ≤ 6 := by omega
          have HN6 := hid (show n ≤ 6 by omega)
          clear hv hb hR h0 hrt hn hm h1 h2 hL hok hc h6 hix hiy hsz hng hneg hnm hzb hne
          go_enter Tryz.func28, Tryz.ntmps28
          go_upto_region 1 with fail
          refine wp_gen (fun w' => Ext w w' ∧ Blk w' (w.heap.size) 25 #[.slice A n c, .slice B m d] ∧ Blk w' (w.heap.size + 1) 25 #[.slice none 0 0, .slice none 0 0]) ⟨(((ext_refl w)).new _).new _, ((Blk.new _ _ _)).alloc _, (blk_at _ _ (by simp))⟩ ?_
          rintro wz ⟨x0, x1, x2⟩
          have X : Hid (Ext w wz) := hid x0
          have BT := hid x1
          have BR := hid x2
          clear x0 x1 x2
          have kBT0 := BT.out.cell 0
          have kBT1 := BT.out.cell 1
          go_wp2_with fail
          refine Calls.mono (HTC.out _ X.out) ?_
          rintro e w0 ⟨rfl, hx⟩
          replace X := hid (X.out.then hx)
          replace BR := hid (BR.out.keep hx)
          replace BT := hid (BT.out.keep hx)
          clear kBT0 kBT1 hx
          have kBT0 := BT.out.cell 0
          have kBT1 := BT.out.cell 1
          go_wp2_with fail
          refine Calls.mono (HA1.out _ X.out) ?_
          rintro e w1 ⟨rfl, hx⟩
          replace X := hid (X.out.then hx)
          replace BR := hid (BR.out.keep hx)
          replace BT := hid (BT.out.keep hx)
          clear kBT0 kBT1 hx
          go_wp2_with fail
          refine Calls.mono (HNM.out _) ?_
          rintro e wx ⟨rfl, rfl⟩
          have kU0 := BT.out.cell 0
          have kU1 := BT.out.cell 1
          go_wp2
          have F0 := hid (Blk.new w1 25 #[.slice none 0 0, .slice B m d])
          have E0 := hid (Ext.new (ext_refl w1) (.cells #[.slice none 0 0, .slice B m d] 25))
          go_loopw [10, 11] (fun ii _ wr => ∃ k : Nat, k ≤ n ∧ ii = .int .i64 k ∧ ∃ A' c', Hid (Blk wr w1.heap.size 25 #[.slice A' k c', .slice B m d]) ∧ Hid (wr.ownsRow w1.heap.size 39 2 (.slice A' k c') k (ens ((t.1.take k).map (Tb.ren1 s n2)))) ∧ Hid (Ext w1 wr)) (fun ii _ _ => n - (intOf ii).toNat)
          case atStart => exact ⟨0, Nat.zero_le _, rfl, none, 0, F0, hid (World.ownsRow_nil _ _ _ _), E0⟩
          case round =>
            obtain ⟨k, hk, rfl, A', c', HF, Q1, HX⟩ := hrel
            by_cases hlt : k < n
            · have hka : k < t.1.length := by rw [← HNN.out]; exact hlt
              obtain ⟨b2, o2, e2, l2, c2⟩ := HA.out.ents k hka
              have XW := hid (X.out.then HX.out)
              have d0 := ext_cell XW.out (c2 k hka).1
              have d1 := ext_cell XW.out (c2 k hka).2
              have kT0 := (BT.out.keep HX.out).cell 0
              have HK6 := hid (show k ≤ 6 by have h3 := HN6.out; omega)
              have hakn : (k : Int) < (n : Int) := by omega
              have HSN := hid (Tb.map_snoc (Tb.ren1 s n2) t.1 k hka)
              have he2 := hid e2
              generalize t.1[k] = ce at *
              obtain ⟨cs, ck⟩ := ce
              simp only at d0 d1
              clear c2 l2 e2 hka hlt
              have e2 := he2.out
              subst e2
              obtain ⟨Z0, hZ0⟩ : ∃ Z, Z = (t.1.take k).map (Tb.ren1 s n2) := ⟨_, rfl⟩
              rw [← hZ0] at Q1 HSN
              clear hZ0
              have XN := hid (Ext.new (ext_refl wr) (.cells #[.string cs, .int .i64 ck] 39))
              have BN := hid (Blk.new wr 39 #[.string cs, .int .i64 ck])
              by_cases hs : cs = s
              · subst hs
                obtain ⟨x, hx⟩ : ∃ x, x = n2 := ⟨_, rfl⟩
                have HRN := hid (show Tb.ren1 cs n2 (cs, ck) = (x, ck) by unfold Tb.ren1; rw [if_pos rfl, hx])
                have HXX := hid hx
                have g1 : (cs.toList == cs.toList) = true := by simp
                clear hx
                go_upto_region 17 with fail
                clear kT0 d0 d1 g1
                refine wp_gen (fun w' => Ext wr w' ∧ Blk w' wr.heap.size 39 #[.string x, .int .i64 ck]) (by rw [HXX.out]; exact ⟨(ext_refl wr).new _, Blk.new _ _ _⟩) ?_
                rintro wc ⟨y0, y1⟩
                have YC := hid y0
                have BC := hid y1
                clear y0 y1 XN BN
                obtain ⟨gb, hgb⟩ : ∃ g, g = wr.heap.size := ⟨_, rfl⟩
                rw [← hgb] at BC ⊢
                clear hgb
                have HFc := hid (HF.out.keep YC.out)
                have Q1c := hid (own_ext Q1.out YC.out)
                have HXc := hid (HX.out.then YC.out)
                have o0 := HFc.out.cell 0
                have of0 := HFc.out.frozen 0
                have olt := HFc.out.lt
                have b0 := BC.out.cell 0
                have b1 := BC.out.cell 1
                have HXn := hid (Ext.new (ext_refl wc) (.cells #[.string x, .int .i64 ck] 39))
                have HOx := hid (own_ext Q1c.out HXn.out)
                have HFx := hid (HFc.out.keep HXn.out)
                have HBx := hid (own_nblk HOx.out HFx.out (by decide))
                have HSW := hid (HXc.out.then HXn.out).size
                go_wp2_with (at_builtin; go_loud (refine wpList_app rfl (.tmp 70) (.tmp 72) rowCo rfl _ k (ens Z0) rfl HOx.out _ 1 (ens [(x, ck)]) rfl (Src.rd Tryz.underlying22 _ 1 1 (ens [(x, ck)]) rfl (rd_lit (w := wc) (g := wc.heap.size) (C := #[.string x, .int .i64 ck]) (e := 39) (fz := (0, 0)) (cs := ens [(x, ck)]) rfl rfl) (ens_one _) (fun h => by cases h)) (by have := HK6.out; simp only [maxLen] at *; omega) (by have := HK6.out; omega) HSW.out ?_; intro v2 w9 hown9 hgrow hat hbel; have M1 := hid hown9; have MB := hid (Blk.grw HFx.out hgrow HBx.out); have MX := hid hbel; obtain ⟨A8, c8, rfl, _⟩ := Rd.owned hown9; have q0 := MB.out.cell 0; have f0 := MB.out.frozen 0; have lq := MB.out.lt; clear hown9 hgrow hat hbel o0 of0 olt b0 b1))
                go_roundw
                case rel =>
                  refine ⟨k + 1, by omega, by go_num, A8, c8, hid ((MB.out.set 0 (.slice A8 (k + 1) c8)).cast (by simp)), hid ?_, hid ?_⟩
                  · rw [HSN.out, ens_app, HRN.out]; exact own_put M1.out (p := ⟨w1.heap.size, 0, none⟩) (own_nblk M1.out MB.out (by decide)) _
                  · exact Below.setCell (Below.trans (HXc.out.then HXn.out) MX.out) (p := ⟨w1.heap.size, 0, none⟩) (Nat.le_refl _) _
                case measure => simp [intOf] <;> omega
              · obtain ⟨x, hx⟩ : ∃ x, x = cs := ⟨_, rfl⟩
                have HRN := hid (show Tb.ren1 s n2 (cs, ck) = (x, ck) by unfold Tb.ren1; rw [if_neg hs, hx])
                have g1 := Tb.tl_ne hs
                clear hs
                subst hx
                go_upto_region 17 with fail
                clear kT0 d0 d1 g1
                refine wp_gen (fun w' => Ext wr w' ∧ Blk w' wr.heap.size 39 #[.string x, .int .i64 ck]) ⟨XN.out, BN.out⟩ ?_
                rintro wc ⟨y0, y1⟩
                have YC := hid y0
                have BC := hid y1
                clear y0 y1 XN BN
                obtain ⟨gb, hgb⟩ : ∃ g, g = wr.heap.size := ⟨_, rfl⟩
                rw [← hgb] at BC ⊢
                clear hgb
                have HFc := hid (HF.out.keep YC.out)
                have Q1c := hid (own_ext Q1.out YC.out)
                have HXc := hid (HX.out.then YC.out)
                have o0 := HFc.out.cell 0
                have of0 := HFc.out.frozen 0
                have olt := HFc.out.lt
                have b0 := BC.out.cell 0
                have b1 := BC.out.cell 1
                have HXn := hid (Ext.new (ext_refl wc) (.cells #[.string x, .int .i64 ck] 39))
                have HOx := hid (own_ext Q1c.out HXn.out)
                have HFx := hid (HFc.out.keep HXn.out)
                have HBx := hid (own_nblk HOx.out HFx.out (by decide))
                have HSW := hid (HXc.out.then HXn.out).size
                go_wp2_with (at_builtin; go_loud (refine wpList_app rfl (.tmp 70) (.tmp 72) rowCo rfl _ k (ens Z0) rfl HOx.out _ 1 (ens [(x, ck)]) rfl (Src.rd Tryz.underlying22 _ 1 1 (ens [(x, ck)]) rfl (rd_lit (w := wc) (g := wc.heap.size) (C := #[.string x, .int .i64 ck]) (e := 39) (fz := (0, 0)) (cs := ens [(x, ck)]) rfl rfl) (ens_one _) (fun h => by cases h)) (by have := HK6.out; simp only [maxLen] at *; omega) (by have := HK6.out; omega) HSW.out ?_; intro v2 w9 hown9 hgrow hat hbel; have M1 := hid hown9; have MB := hid (Blk.grw HFx.out hgrow HBx.out); have MX := hid hbel; obtain ⟨A8, c8, rfl, _⟩ := Rd.owned hown9; have q0 := MB.out.cell 0; have f0 := MB.out.frozen 0; have lq := MB.out.lt; clear hown9 hgrow hat hbel o0 of0 olt b0 b1))
                go_roundw
                case rel =>
                  refine ⟨k + 1, by omega, by go_num, A8, c8, hid ((MB.out.set 0 (.slice A8 (k + 1) c8)).cast (by simp)), hid ?_, hid ?_⟩
                  · rw [HSN.out, ens_app, HRN.out]; exact own_put M1.out (p := ⟨w1.heap.size, 0, none⟩) (own_nblk M1.out MB.out (by decide)) _
                  · exact Below.setCell (Below.trans (HXc.out.then HXn.out) MX.out) (p := ⟨w1.heap.size, 0, none⟩) (Nat.le_refl _) _
                case measure => simp [intOf] <;> omega
            · obtain rfl : k = n := by omega
              have ht1 : t.1.take k = t.1 := List.take_of_length_le (by rw [← HNN.out]; exact Nat.le_refl _)
              rw [ht1] at Q1
              have kT0 := (BT.out.keep HX.out).cell 0
              have o0 := HF.out.cell 0
              have o1 := HF.out.cell 1
              have q0 := (BR.out.keep HX.out).cell 0
              have q1 := (BR.out.keep HX.out).cell 1
              have f0 := (BR.out.keep HX.out).frozen 0
              have f1 := (BR.out.keep HX.out).frozen 1
              have BRl := hid BR.out.lt
              have BR2 := hid (BR.out.keep HX.out)
              have XW := hid (X.out.then HX.out)
              clear hlt ht1
              go_wp2
              have HBF := hid (((BR2.out.set 0 (.slice A' k c')).set 1 (.slice B m d)).cast (cs' := #[.slice A' k c', .slice B m d]) (by simp))
              have XF := hid (Ext.put (Ext.put XW.out (p := ⟨w.heap.size + 1, 0, none⟩) (by simp only; omega) (.slice A' k c')) (p := ⟨w.heap.size + 1, 1, none⟩) (by simp only; omega) (.slice B m d))
              refine bodyPost_ret (results_blk2 rfl _ _ (w.heap.size + 1) 25 _ _ rfl HBF.out Tryz.underlying25 rfl (by kernel_rfl)) rfl ?_
              have e1 : ∀ {e : TypeId} {size : Nat} {u : Value} {q : Nat} {xs : List Value}, wr.ownsRow w1.heap.size e size u q xs → ((wr.setCell ⟨w.heap.size + 1, 0, none⟩ (.slice A' k c')).setCell ⟨w.heap.size + 1, 1, none⟩ (.slice B m d)).ownsRow w1.heap.size e size u q xs := fun h => own_past (own_past h (p := ⟨w.heap.size + 1, 0, none⟩) BRl.out _) (p := ⟨w.heap.size + 1, 1, none⟩) BRl.out _
              obtain ⟨rA, zA, cA⟩ := own_rd (e1 Q1.out)
              have hl1 : (t.1.map (Tb.ren1 s n2)).length = k := by rw [List.length_map]; exact HNN.out.symm
              refine ⟨_, by rw [HV.out]; rfl, ?_, XF.out⟩
              rw [HV.out, Tb.res_ok, ← HLAW.out]
              exact ⟨A', c', B, d, L, by simp only [hl1, ← HM.out], rA, HBR.out.keep XF.out, HLM.out, fun x hx => (HOK.out x hx).keep XF.out, fun h => by simp only [hl1]; exact zA h, fun h => HZB.out h, by simp only [hl1]; exact cA⟩
        · have g9 := str_ne hne
          have g8 := Tb.tl_ne hne
          by_cases hy : 0 ≤ iy
          · have HV := hid (hR.trans (Tb.ren_six hrt hng hnm hne (by rw [← hiy]; exact hy)))
            have HNE := hid (show (6 : Nat) ≠ 0 by decide)
            clear hv hb hR h0 hrt hn hm h1 h2 hL hok hc h6 hix hiy hsz hzb hng hneg hnm hne
            go_enter Tryz.func28, Tryz.ntmps28
            go_upto_region 1 with fail
            refine wp_gen (fun w' => Ext w w' ∧ Blk w' (w.heap.size) 25 #[.slice A n c, .slice B m d] ∧ Blk w' (w.heap.size + 1) 25 #[.slice none 0 0, .slice none 0 0]) ⟨(((ext_refl w)).new _).new _, ((Blk.new _ _ _)).alloc _, (blk_at _ _ (by simp))⟩ ?_
            rintro wz ⟨x0, x1, x2⟩
            have X : Hid (Ext w wz) := hid x0
            have BT := hid x1
            have BR := hid x2
            clear x0 x1 x2
            have kBT0 := BT.out.cell 0
            have kBT1 := BT.out.cell 1
            go_wp2_with fail
            refine Calls.mono (HTC.out _ X.out) ?_
            rintro e w0 ⟨rfl, hx⟩
            replace X := hid (X.out.then hx)
            replace BR := hid (BR.out.keep hx)
            replace BT := hid (BT.out.keep hx)
            clear kBT0 kBT1 hx
            have kBT0 := BT.out.cell 0
            have kBT1 := BT.out.cell 1
            go_wp2_with fail
            refine Calls.mono (HA1.out _ X.out) ?_
            rintro e w1 ⟨rfl, hx⟩
            replace X := hid (X.out.then hx)
            replace BR := hid (BR.out.keep hx)
            replace BT := hid (BT.out.keep hx)
            clear kBT0 kBT1 hx
            go_wp2_with fail
            refine Calls.mono (HNM.out _) ?_
            rintro e wx ⟨rfl, rfl⟩
            have kBT0 := BT.out.cell 0
            have kBT1 := BT.out.cell 1
            go_wp2_with fail
            refine Calls.mono (HA2.out _ X.out) ?_
            rintro e w2 ⟨rfl, hx⟩
            replace X := hid (X.out.then hx)
            replace BR := hid (BR.out.keep hx)
            replace BT := hid (BT.out.keep hx)
            clear kBT0 kBT1 hx
            have q0 := BR.out.cell 0
            have q1 := BR.out.cell 1
            have f0 := BR.out.frozen 0
            have f1 := BR.out.frozen 1
            have ql := BR.out.lt
            go_wp2
            have HBF := hid (((BR.out.set 0 (.slice none 0 0)).set 1 (.slice none 0 0)).cast (cs' := #[.slice none 0 0, .slice none 0 0]) (by simp))
            have XF := hid (Ext.put (Ext.put X.out (p := ⟨w.heap.size + 1, 0, none⟩) (by simp only; omega) (.slice none 0 0)) (p := ⟨w.heap.size + 1, 1, none⟩) (by simp only; omega) (.slice none 0 0))
            refine bodyPost_ret (results_blk2 rfl _ _ (w.heap.size + 1) 25 _ _ rfl HBF.out Tryz.underlying25 rfl (by kernel_rfl)) rfl ?_
            exact ⟨_, by rw [HV.out]; rfl, by rw [HV.out, Tb.res_no HNE.out]; exact tb0_V _, XF.out⟩
          · have hyn : iy < 0 := by omega
            have HV := hid (show R = 0 from hR.trans (Tb.renE_ok.2 ⟨hrt, Tb.not_neg hng, hnm, .inr ((Tb.ixc_neg _ _ _).1 (by rw [← hiy]; exact hyn))⟩))
            have HLAW := hid (Tb.ren_law (n := n2) hrt (Tb.not_neg hng))
            have HNN := hid hn; have HM := hid hm
            have HA := hid h1; have HBR := hid h2; have HLM := hid hL; have HOK := hid hok
            have HZB := hid hzb
            have hnI : (n : Int) ≤ 6 := by omega
            have HN6 := hid (show n ≤ 6 by omega)
            clear hv hb hR h0 hrt hn hm h1 h2 hL hok hc h6 hix hiy hsz hng hneg hnm hzb hne hy
            go_enter Tryz.func28, Tryz.ntmps28
            go_upto_region 1 with fail
            refine wp_gen (fun w' => Ext w w' ∧ Blk w' (w.heap.size) 25 #[.slice A n c, .slice B m d] ∧ Blk w' (w.heap.size + 1) 25 #[.slice none 0 0, .slice none 0 0]) ⟨(((ext_refl w)).new _).new _, ((Blk.new _ _ _)).alloc _, (blk_at _ _ (by simp))⟩ ?_
            rintro wz ⟨x0, x1, x2⟩
            have X : Hid (Ext w wz) := hid x0
            have BT := hid x1
            have BR := hid x2
            clear x0 x1 x2
            have kBT0 := BT.out.cell 0
            have kBT1 := BT.out.cell 1
            go_wp2_with fail
            refine Calls.mono (HTC.out _ X.out) ?_
            rintro e w0 ⟨rfl, hx⟩
            replace X := hid (X.out.then hx)
            replace BR := hid (BR.out.keep hx)
            replace BT := hid (BT.out.keep hx)
            clear kBT0 kBT1 hx
            have kBT0 := BT.out.cell 0
            have kBT1 := BT.out.cell 1
            go_wp2_with fail
            refine Calls.mono (HA1.out _ X.out) ?_
            rintro e wa ⟨rfl, hx⟩
            replace X := hid (X.out.then hx)
            replace BR := hid (BR.out.keep hx)
            replace BT := hid (BT.out.keep hx)
            clear kBT0 kBT1 hx
            go_wp2_with fail
            refine Calls.mono (HNM.out _) ?_
            rintro e wx ⟨rfl, rfl⟩
            have kBT0 := BT.out.cell 0
            have kBT1 := BT.out.cell 1
            go_wp2_with fail
            refine Calls.mono (HA2.out _ X.out) ?_
            rintro e w1 ⟨rfl, hx⟩
            replace X := hid (X.out.then hx)
            replace BR := hid (BR.out.keep hx)
            replace BT := hid (BT.out.keep hx)
            clear kBT0 kBT1 hx
            have kU0 := BT.out.cell 0
            have kU1 := BT.out.cell 1
            go_wp2
            have F0 := hid (Blk.new w1 25 #[.slice none 0 0, .slice B m d])
            have E0 := hid (Ext.new (ext_refl w1) (.cells #[.slice none 0 0, .slice B m d] 25))
            go_loopw [10, 11] (fun ii _ wr => ∃ k : Nat, k ≤ n ∧ ii = .int .i64 k ∧ ∃ A' c', Hid (Blk wr w1.heap.size 25 #[.slice A' k c', .slice B m d]) ∧ Hid (wr.ownsRow w1.heap.size 39 2 (.slice A' k c') k (ens ((t.1.take k).map (Tb.ren1 s n2)))) ∧ Hid (Ext w1 wr)) (fun ii _ _ => n - (intOf ii).toNat)
            case atStart => exact ⟨0, Nat.zero_le _, rfl, none, 0, F0, hid (World.ownsRow_nil _ _ _ _), E0⟩
            case round =>
              obtain ⟨k, hk, rfl, A', c', HF, Q1, HX⟩ := hrel
              by_cases hlt : k < n
              · have hka : k < t.1.length := by rw [← HNN.out]; exact hlt
                obtain ⟨b2, o2, e2, l2, c2⟩ := HA.out.ents k hka
                have XW := hid (X.out.then HX.out)
                have d0 := ext_cell XW.out (c2 k hka).1
                have d1 := ext_cell XW.out (c2 k hka).2
                have kT0 := (BT.out.keep HX.out).cell 0
                have HK6 := hid (show k ≤ 6 by have h3 := HN6.out; omega)
                have hakn : (k : Int) < (n : Int) := by omega
                have HSN := hid (Tb.map_snoc (Tb.ren1 s n2) t.1 k hka)
                have he2 := hid e2
                generalize t.1[k] = ce at *
                obtain ⟨cs, ck⟩ := ce
                simp only at d0 d1
                clear c2 l2 e2 hka hlt
                have e2 := he2.out
                subst e2
                obtain ⟨Z0, hZ0⟩ : ∃ Z, Z = (t.1.take k).map (Tb.ren1 s n2) := ⟨_, rfl⟩
                rw [← hZ0] at Q1 HSN
                clear hZ0
                have XN := hid (Ext.new (ext_refl wr) (.cells #[.string cs, .int .i64 ck] 39))
                have BN := hid (Blk.new wr 39 #[.string cs, .int .i64 ck])
                by_cases hs : cs = s
                · subst hs
                  obtain ⟨x, hx⟩ : ∃ x, x = n2 := ⟨_, rfl⟩
                  have HRN := hid (show Tb.ren1 cs n2 (cs, ck) = (x, ck) by unfold Tb.ren1; rw [if_pos rfl, hx])
                  have HXX := hid hx
                  have g1 : (cs.toList == cs.toList) = true := by simp
                  clear hx
                  go_upto_region 17 with fail
                  clear kT0 d0 d1 g1
                  refine wp_gen (fun w' => Ext wr w' ∧ Blk w' wr.heap.size 39 #[.string x, .int .i64 ck]) (by rw [HXX.out]; exact ⟨(ext_refl wr).new _, Blk.new _ _ _⟩) ?_
                  rintro wc ⟨y0, y1⟩
                  have YC := hid y0
                  have BC := hid y1
                  clear y0 y1 XN BN
                  obtain ⟨gb, hgb⟩ : ∃ g, g = wr.heap.size := ⟨_, rfl⟩
                  rw [← hgb] at BC ⊢
                  clear hgb
                  have HFc := hid (HF.out.keep YC.out)
                  have Q1c := hid (own_ext Q1.out YC.out)
                  have HXc := hid (HX.out.then YC.out)
                  have o0 := HFc.out.cell 0
                  have of0 := HFc.out.frozen 0
                  have olt := HFc.out.lt
                  have b0 := BC.out.cell 0
                  have b1 := BC.out.cell 1
                  have HXn := hid (Ext.new (ext_refl wc) (.cells #[.string x, .int .i64 ck] 39))
                  have HOx := hid (own_ext Q1c.out HXn.out)
                  have HFx := hid (HFc.out.keep HXn.out)
                  have HBx := hid (own_nblk HOx.out HFx.out (by decide))
                  have HSW := hid (HXc.out.then HXn.out).size
                  go_wp2_with (at_builtin; go_loud (refine wpList_app rfl (.tmp 70) (.tmp 72) rowCo rfl _ k (ens Z0) rfl HOx.out _ 1 (ens [(x, ck)]) rfl (Src.rd Tryz.underlying22 _ 1 1 (ens [(x, ck)]) rfl (rd_lit (w := wc) (g := wc.heap.size) (C := #[.string x, .int .i64 ck]) (e := 39) (fz := (0, 0)) (cs := ens [(x, ck)]) rfl rfl) (ens_one _) (fun h => by cases h)) (by have := HK6.out; simp only [maxLen] at *; omega) (by have := HK6.out; omega) HSW.out ?_; intro v2 w9 hown9 hgrow hat hbel; have M1 := hid hown9; have MB := hid (Blk.grw HFx.out hgrow HBx.out); have MX := hid hbel; obtain ⟨A8, c8, rfl, _⟩ := Rd.owned hown9; have q0 := MB.out.cell 0; have f0 := MB.out.frozen 0; have lq := MB.out.lt; clear hown9 hgrow hat hbel o0 of0 olt b0 b1))
                  go_roundw
                  case rel =>
                    refine ⟨k + 1, by omega, by go_num, A8, c8, hid ((MB.out.set 0 (.slice A8 (k + 1) c8)).cast (by simp)), hid ?_, hid ?_⟩
                    · rw [HSN.out, ens_app, HRN.out]; exact own_put M1.out (p := ⟨w1.heap.size, 0, none⟩) (own_nblk M1.out MB.out (by decide)) _
                    · exact Below.setCell (Below.trans (HXc.out.then HXn.out) MX.out) (p := ⟨w1.heap.size, 0, none⟩) (Nat.le_refl _) _
                  case measure => simp [intOf] <;> omega
                · obtain ⟨x, hx⟩ : ∃ x, x = cs := ⟨_, rfl⟩
                  have HRN := hid (show Tb.ren1 s n2 (cs, ck) = (x, ck) by unfold Tb.ren1; rw [if_neg hs, hx])
                  have g1 := Tb.tl_ne hs
                  clear hs
                  subst hx
                  go_upto_region 17 with fail
                  clear kT0 d0 d1 g1
                  refine wp_gen (fun w' => Ext wr w' ∧ Blk w' wr.heap.size 39 #[.string x, .int .i64 ck]) ⟨XN.out, BN.out⟩ ?_
                  rintro wc ⟨y0, y1⟩
                  have YC := hid y0
                  have BC := hid y1
                  clear y0 y1 XN BN
                  obtain ⟨gb, hgb⟩ : ∃ g, g = wr.heap.size := ⟨_, rfl⟩
                  rw [← hgb] at BC ⊢
                  clear hgb
                  have HFc := hid (HF.out.keep YC.out)
                  have Q1c := hid (own_ext Q1.out YC.out)
                  have HXc := hid (HX.out.then YC.out)
                  have o0 := HFc.out.cell 0
                  have of0 := HFc.out.frozen 0
                  have olt := HFc.out.lt
                  have b0 := BC.out.cell 0
                  have b1 := BC.out.cell 1
                  have HXn := hid (Ext.new (ext_refl wc) (.cells #[.string x, .int .i64 ck] 39))
                  have HOx := hid (own_ext Q1c.out HXn.out)
                  have HFx := hid (HFc.out.keep HXn.out)
                  have HBx := hid (own_nblk HOx.out HFx.out (by decide))
                  have HSW := hid (HXc.out.then HXn.out).size
                  go_wp2_with (at_builtin; go_loud (refine wpList_app rfl (.tmp 70) (.tmp 72) rowCo rfl _ k (ens Z0) rfl HOx.out _ 1 (ens [(x, ck)]) rfl (Src.rd Tryz.underlying22 _ 1 1 (ens [(x, ck)]) rfl (rd_lit (w := wc) (g := wc.heap.size) (C := #[.string x, .int .i64 ck]) (e := 39) (fz := (0, 0)) (cs := ens [(x, ck)]) rfl rfl) (ens_one _) (fun h => by cases h)) (by have := HK6.out; simp only [maxLen] at *; omega) (by have := HK6.out; omega) HSW.out ?_; intro v2 w9 hown9 hgrow hat hbel; have M1 := hid hown9; have MB := hid (Blk.grw HFx.out hgrow HBx.out); have MX := hid hbel; obtain ⟨A8, c8, rfl, _⟩ := Rd.owned hown9; have q0 := MB.out.cell 0; have f0 := MB.out.frozen 0; have lq := MB.out.lt; clear hown9 hgrow hat hbel o0 of0 olt b0 b1))
                  go_roundw
                  case rel =>
                    refine ⟨k + 1, by omega, by go_num, A8, c8, hid ((MB.out.set 0 (.slice A8 (k + 1) c8)).cast (by simp)), hid ?_, hid ?_⟩
                    · rw [HSN.out, ens_app, HRN.out]; exact own_put M1.out (p := ⟨w1.heap.size, 0, none⟩) (own_nblk M1.out MB.out (by decide)) _
                    · exact Below.setCell (Below.trans (HXc.out.then HXn.out) MX.out) (p := ⟨w1.heap.size, 0, none⟩) (Nat.le_refl _) _
                  case measure => simp [intOf] <;> omega
              · obtain rfl : k = n := by omega
                have ht1 : t.1.take k = t.1 := List.take_of_length_le (by rw [← HNN.out]; exact Nat.le_refl _)
                rw [ht1] at Q1
                have kT0 := (BT.out.keep HX.out).cell 0
                have o0 := HF.out.cell 0
                have o1 := HF.out.cell 1
                have q0 := (BR.out.keep HX.out).cell 0
                have q1 := (BR.out.keep HX.out).cell 1
                have f0 := (BR.out.keep HX.out).frozen 0
                have f1 := (BR.out.keep HX.out).frozen 1
                have BRl := hid BR.out.lt
                have BR2 := hid (BR.out.keep HX.out)
                have XW := hid (X.out.then HX.out)
                clear hlt ht1
                go_wp2
                have HBF := hid (((BR2.out.set 0 (.slice A' k c')).set 1 (.slice B m d)).cast (cs' := #[.slice A' k c', .slice B m d]) (by simp))
                have XF := hid (Ext.put (Ext.put XW.out (p := ⟨w.heap.size + 1, 0, none⟩) (by simp only; omega) (.slice A' k c')) (p := ⟨w.heap.size + 1, 1, none⟩) (by simp only; omega) (.slice B m d))
                refine bodyPost_ret (results_blk2 rfl _ _ (w.heap.size + 1) 25 _ _ rfl HBF.out Tryz.underlying25 rfl (by kernel_rfl)) rfl ?_
                have e1 : ∀ {e : TypeId} {size : Nat} {u : Value} {q : Nat} {xs : List Value}, wr.ownsRow w1.heap.size e size u q xs → ((wr.setCell ⟨w.heap.size + 1, 0, none⟩ (.slice A' k c')).setCell ⟨w.heap.size + 1, 1, none⟩ (.slice B m d)).ownsRow w1.heap.size e size u q xs := fun h => own_past (own_past h (p := ⟨w.heap.size + 1, 0, none⟩) BRl.out _) (p := ⟨w.heap.size + 1, 1, none⟩) BRl.out _
                obtain ⟨rA, zA, cA⟩ := own_rd (e1 Q1.out)
                have hl1 : (t.1.map (Tb.ren1 s n2)).length = k := by rw [List.length_map]; exact HNN.out.symm
                refine ⟨_, by rw [HV.out]; rfl, ?_, XF.out⟩
                rw [HV.out, Tb.res_ok, ← HLAW.out]
                exact ⟨A', c', B, d, L, by simp only [hl1, ← HM.out], rA, HBR.out.keep XF.out, HLM.out, fun x hx => (HOK.out x hx).keep XF.out, fun h => by simp only [hl1]; exact zA h, fun h => HZB.out h, by simp only [hl1]; exact cA⟩
  · obtain ⟨C, hC⟩ : ∃ C, C = Tb.tbck t := ⟨_, rfl⟩
    rw [← hC] at HTC
    have HV := hid (hR.trans ((Tb.renE_bad h0).trans hC.symm))
    rw [← hC] at h0
    have HNE := hid h0
    have e1 : ((C : Int) == 0) = false := beq_eq_false_iff_ne.2 (by omega)
    have e2 : ((C : Int) != 0) = true := by simp; omega
    clear hv hb hR hC h0 hsz
    go_enter Tryz.func28, Tryz.ntmps28
    go_upto_region 1 with fail
    refine wp_gen (fun w' => Ext w w' ∧ Blk w' (w.heap.size) 25 #[.slice A n c, .slice B m d] ∧ Blk w' (w.heap.size + 1) 25 #[.slice none 0 0, .slice none 0 0]) ⟨(((ext_refl w)).new _).new _, ((Blk.new _ _ _)).alloc _, (blk_at _ _ (by simp))⟩ ?_
    rintro wz ⟨x0, x1, x2⟩
    have X : Hid (Ext w wz) := hid x0
    have BT := hid x1
    have BR := hid x2
    clear x0 x1 x2
    have kBT0 := BT.out.cell 0
    have kBT1 := BT.out.cell 1
    go_wp2_with fail
    refine Calls.mono (HTC.out _ X.out) ?_
    rintro e w1 ⟨rfl, hx⟩
    replace X := hid (X.out.then hx)
    replace BR := hid (BR.out.keep hx)
    replace BT := hid (BT.out.keep hx)
    clear kBT0 kBT1 hx
    have q0 := BR.out.cell 0
    have q1 := BR.out.cell 1
    have f0 := BR.out.frozen 0
    have f1 := BR.out.frozen 1
    have ql := BR.out.lt
    go_wp2
    have HBF := hid (((BR.out.set 0 (.slice none 0 0)).set 1 (.slice none 0 0)).cast (cs' := #[.slice none 0 0, .slice none 0 0]) (by simp))
    have XF := hid (Ext.put (Ext.put X.out (p := ⟨w.heap.size + 1, 0, none⟩) (by simp only; omega) (.slice none 0 0)) (p := ⟨w.heap.size + 1, 1, none⟩) (by simp only; omega) (.slice none 0 0))
    refine bodyPost_ret (results_blk2 rfl _ _ (w.heap.size + 1) 25 _ _ rfl HBF.out Tryz.underlying25 rfl (by kernel_rfl)) rfl ?_
    exact ⟨_, by rw [HV.out]; rfl, by rw [HV.out, Tb.res_no HNE.out]; exact tb0_V _, XF.out⟩
end Go.Proofs.YtolhifnlahllnaaGreatDoor
