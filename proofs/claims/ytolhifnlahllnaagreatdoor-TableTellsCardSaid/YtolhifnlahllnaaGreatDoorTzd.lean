/- Tables, the document: KeepOf, SliceOf: walks (printed by gen_tzd.py). -/
import Derived.Test.YtolhifnlahllnaaGreatDoorTzc
import Derived.Test.YtolhifnlahllnaaGreatDoorTkq
import Derived.Test.YtolhifnlahllnaaGreatDoorQad
namespace Hy.Tb
open Go
theorem filt_snoc (f : Nat → Bool) (k : Nat) : (List.range (k + 1)).filter f = (List.range k).filter f ++ (if f k = true then [k] else []) := by
  rw [List.range_succ, List.filter_append]
  by_cases h : f k = true <;> simp [h]
theorem filt_lt {f : Nat → Bool} {n i : Nat} (h : i ∈ (List.range n).filter f) : i < n := List.mem_range.1 (List.mem_filter.1 h).1
theorem cel_size {kd : Int} {x : Cel} (h : Cel.alone kd x = 0) : x.2.2.size ≤ 16 := by
  unfold Cel.alone at h
  by_cases h1 : x.1 ≠ 0 ∧ x.1 ≠ kd
  · rw [if_pos h1] at h; omega
  · rw [if_neg h1] at h
    by_cases h2 : (x.1 ≠ 1 ∧ x.2.1 ≠ 0) ∨ (x.1 ≠ 2 ∧ x.2.2.size ≠ 0)
    · rw [if_pos h2] at h; omega
    · rw [if_neg h2] at h
      by_cases h3 : 16 < x.2.2.size
      · rw [if_pos h3] at h; omega
      · omega
theorem row_size {t : Tab} (h : Right t) (i : Nat) : ∀ x ∈ rowAt t.2 i, x.2.2.size ≤ 140737488355328 := fun x hx => by
  obtain ⟨k, hk, rfl⟩ := List.mem_iff_getElem.1 hx
  rw [row_len] at hk
  have e : (rowAt t.2 i)[k]'(by rw [row_len]; exact hk) = t.2[k].getD i Cnd.O := by simp [rowAt]
  rw [e]
  by_cases hi : i < t.2[k].length
  · have hx : t.2[k].getD i Cnd.O ∈ t.2[k] := by
      rw [List.getD_eq_getElem?_getD, List.getElem?_eq_getElem hi]; exact List.getElem_mem _
    have := cel_size (h.cel k (by rw [h.len]; exact hk) hk _ hx)
    omega
  · rw [List.getD_eq_getElem?_getD, List.getElem?_eq_none (by omega)]
    show (ByteArray.empty).size ≤ _
    decide
end Hy.Tb
namespace Go.Proofs.YtolhifnlahllnaaGreatDoor
open Go.RowKit Hy
set_option maxHeartbeats 6400000 in
set_option maxRecDepth 100000 in
/-- the document's rows that are kept -/
theorem keepOf_any (t : Tb.Tab) (p : List Cnd) (P : Option Addr) (np pcap : Nat) (v : Value) (w : World) (hv : TbV w v t) (hb : TbB t) (hpn : p.length = np) (hp : Rd w P (cns p)) (hnl : np ≤ 140737488355328) (hcap : np ≤ pcap) :
    Calls Tryz.prog 12 #[v, .slice P np pcap] w fun e w' => ∃ v', e = .returned (.tuple #[v', .int .i64 ((Tb.keepE t p : Nat) : Int)]) ∧ TbV w' v' (Tb.res (Tb.keepE t p) (Tb.keepT t p)) ∧ Ext w w' := by
  have HV0 := hid hv
  have HB := hid hb
  obtain ⟨A, n, c, B, m, d, rfl⟩ := hv.shape
  have HTC := hid (fun wx (hx : Ext w wx) => tabCheck_any t _ wx (HV0.out.keep hx) HB.out)
  have HRO := hid (fun wx (hx : Ext w wx) => rowsOf_any t _ wx (HV0.out.keep hx) HB.out)
  have HP := hid hp
  obtain ⟨R, hR⟩ : ∃ R, R = Tb.keepE t p := ⟨_, rfl⟩
  rw [← hR]
  by_cases h0 : Tb.tbck t = 0
  · have hrt := (Tb.right_iff t).1 h0
    rw [h0] at HTC
    have hE := hR.trans (Tb.keepE_chk (p := p) h0)
    obtain ⟨hn, hm, hcols, hcc⟩ : n = t.1.length ∧ m = t.2.length ∧ Rd w A (ens t.1) ∧ t.1.length ≤ c := by
      obtain ⟨A', c', B', d', L', e, q1, q2, q3, q4, q5, q6, q7⟩ := hv
      simp only [Value.agg.injEq, Array.mk.injEq, List.cons.injEq, Value.slice.injEq] at e
      obtain ⟨⟨rfl, rfl, rfl⟩, ⟨rfl, rfl, rfl⟩, _⟩ := e
      exact ⟨rfl, rfl, q1, q7⟩
    have h6 := hrt.six
    have hlen := hrt.len
    have hlim := hrt.lim
    have HKO := hid (fun wx (hx : Ext w wx) => kindsOf_any t.1 A n c wx hn.symm (hcols.keep hx) (by omega))
    have HCC := hid (fun K kc wx (hx : Ext w wx) (hk : Rd wx K (i64s (Tb.knds t.1))) => condCheck_any (Tb.knds t.1) p P K np pcap n kc wx hpn (HP.out.keep hx) hnl (by rw [Tb.knds_len, hn]) hk (by omega))
    obtain ⟨E, hEE⟩ : ∃ E, E = Cnd.chk (Tb.knds t.1) p := ⟨_, rfl⟩
    rw [← hEE] at HCC hE
    by_cases hc0 : E = 0
    · subst hc0
      have HV := hid hE
      obtain ⟨M, hM⟩ : ∃ M, M = Tb.many t := ⟨_, rfl⟩
      rw [← hM] at HRO hlim
      have HRA := hid (fun i wx (hx : Ext w wx) (hi : i < M) => rowAt_any t i _ wx (HV0.out.keep hx) (by omega) (fun l hl => by rw [hrt.row l hl, ← hM]; exact hi) (fun l hl => by rw [hrt.row l hl, ← hM]; omega))
      have HCO := hid (fun i Rw rc wx (hx : Ext w wx) (hr : Rd wx Rw (cls (Tb.rowAt t.2 i))) => condOf_any (Tb.knds t.1) p (Tb.rowAt t.2 i) P Rw np pcap m rc wx hEE.symm hpn hcap (HP.out.keep hx) (by rw [Tb.row_len, hm]) (by rw [Tb.knds_len, hlen, hm]) (by omega) hr (Tb.row_size hrt i))
      have HTR := hid (fun i => show (Cnd.val (Cnd.askf (Tb.rowAt t.2 i)) Cnd.jn p = 2) = (Tb.tr p t.2 i = true) by unfold Tb.tr; simp)
      have HPK := hid (fun S PP pc lo wx (hx : TbP (OutB lo wx.heap.size) wx (.agg #[.slice A n c, .slice B m d]) t) (hp : Rd wx PP (i64s (Tb.ints S))) (np' : Nat) (hnp : S.length = np') (h1 : np' ≤ 1000) (hi : ∀ i ∈ S, i < M) => picked_any t S PP np' pc _ lo wx hx hp hnp h1 (by omega) (fun i hi' l hl => by rw [hrt.row l hl, ← hM]; exact hi i hi') (fun l hl => by rw [hrt.row l hl, ← hM]; omega))
      have HKL := hid (show Tb.pick t ((List.range M).filter (Tb.tr p t.2)) = Tb.keepT t p from by rw [hM]; rfl)
      have HFS := hid (Tb.filt_snoc (Tb.tr p t.2))
      have HML := hid hlim
      have hMI : (M : Int) ≤ 128 := by omega
      have hnm : t.2.length = m := hm.symm
      rw [hnm] at HRA
      clear hv hb hR hE hpn hp hnl hcap h0 hrt hn hm hcols hcc h6 hlen hlim hEE hM hnm
      go_enter Tryz.func12, Tryz.ntmps12
      go_upto_region 1 with fail
      refine wp_gen (fun w' => Ext w w' ∧ Blk w' (w.heap.size) 25 #[.slice A n c, .slice B m d] ∧ Blk w' (w.heap.size + 1) 25 #[.slice none 0 0, .slice none 0 0]) ⟨(((ext_refl w)).new _).new _, ((Blk.new _ _ _)).alloc _, (blk_at _ _ (by simp))⟩ ?_
      rintro wz ⟨x0, x1, x2⟩
      have X : Hid (Ext w wz) := hid x0
      have BT := hid x1
      have BR := hid x2
      clear x0 x1 x2
      have kBT0 := BT.out.cell 0
      have kBT1 := BT.out.cell 1
      go_wp2_with fail
      refine Calls.mono (HTC.out _ X.out) ?_
      rintro e w1 ⟨rfl, hx⟩
      replace X := hid (X.out.then hx)
      replace BR := hid (BR.out.keep hx)
      replace BT := hid (BT.out.keep hx)
      clear kBT0 kBT1 hx
      have kBT0 := BT.out.cell 0
      have kBT1 := BT.out.cell 1
      go_wp2_with fail
      refine Calls.mono (HKO.out _ X.out) ?_
      rintro e w2 ⟨vk, rfl, ok, hx⟩
      obtain ⟨K, kc, rfl, rk, _⟩ := Rd.owned ok
      have RK := hid rk
      replace X := hid (X.out.then hx)
      replace BR := hid (BR.out.keep hx)
      replace BT := hid (BT.out.keep hx)
      clear kBT0 kBT1 hx ok rk
      go_wp2_with fail
      refine Calls.mono (HCC.out _ _ _ X.out RK.out) ?_
      rintro e w3 ⟨rfl, hx⟩
      replace X := hid (X.out.then hx)
      replace BR := hid (BR.out.keep hx)
      replace BT := hid (BT.out.keep hx)
      clear hx
      have HS3 := hid X.out.size
      obtain ⟨fl, hfl⟩ : ∃ fl, fl = fun k => (List.range k).filter (Tb.tr p t.2) := ⟨_, rfl⟩
      have HF0 := hid (show fl 0 = [] by rw [hfl]; rfl)
      have HFM := hid (show Tb.pick t (fl M) = Tb.keepT t p by rw [hfl]; exact HKL.out)
      have HFS2 := hid (show ∀ k, fl (k + 1) = fl k ++ (if Tb.tr p t.2 k = true then [k] else []) by rw [hfl]; exact HFS.out)
      have HFL := hid (show ∀ k, (fl k).length ≤ k by intro k; rw [hfl]; exact Tb.filt_le _ k)
      have HFT := hid (show ∀ k, ∀ i ∈ fl k, i < k by intro k i hi; rw [hfl] at hi; exact Tb.filt_lt hi)
      clear hfl HKL HFS
      go_wp2
      go_loopw [7, 8] (fun o ii wr => ∃ k : Nat, k ≤ M ∧ ii = .int .i64 k ∧ Hid (wr.ownsRow w3.heap.size 3 1 o (fl k).length (i64s (Tb.ints (fl k)))) ∧ Hid (Ext w3 wr)) (fun _ ii _ => M - (intOf ii).toNat)
      case atStart => exact ⟨0, Nat.zero_le _, rfl, hid (by rw [HF0.out]; exact World.ownsRow_nil _ _ _ _), hid (ext_refl _)⟩
      case round =>
        obtain ⟨k, hk, rfl, HO, HX⟩ := hrel
        have XW := hid (X.out.then HX.out)
        have BT2 := hid (BT.out.keep HX.out)
        by_cases hlt : k < M
        · have hlI : (k : Int) < (M : Int) := by omega
          have HLT := hid hlt
          have kBT0 := BT2.out.cell 0
          have kBT1 := BT2.out.cell 1
          go_wp2_with fail
          refine Calls.mono (HRO.out _ XW.out) ?_
          rintro e w4 ⟨rfl, hx⟩
          have Y4 := hid hx
          have BT4 := hid (BT2.out.keep hx)
          clear hx kBT0 kBT1
          have kBT0 := BT4.out.cell 0
          have kBT1 := BT4.out.cell 1
          go_wp2_with fail
          refine Calls.mono (HRA.out k _ (XW.out.then Y4.out) HLT.out) ?_
          rintro e w5 ⟨vr, rfl, ho, hx⟩
          obtain ⟨Rw, rc, rfl, hrd, _⟩ := Rd.owned ho
          have Y5 := hid (Y4.out.then hx)
          have HRD := hid hrd
          clear hx ho hrd kBT0 kBT1
          go_wp2_with fail
          refine Calls.mono (HCO.out k Rw rc _ (XW.out.then Y5.out) HRD.out) ?_
          rintro e w6 ⟨rfl, hx⟩
          have Y6 := hid (Y5.out.then hx)
          clear hx
          have HT := hid (HTR.out k)
          have hbe : ((Cnd.val (Cnd.askf (Tb.rowAt t.2 k)) Cnd.jn p : Int) == 2) = Tb.tr p t.2 k := by
            have := HT.out
            rw [Bool.eq_iff_iff, ← this]
            rw [beq_iff_eq]; omega
          have HFK := hid (HFS2.out k)
          have HLK := hid (HFL.out k)
          generalize Cnd.val (Cnd.askf (Tb.rowAt t.2 k)) Cnd.jn p = z at *
          clear HT
          cases htr : Tb.tr p t.2 k with
          | true =>
            rw [htr] at hbe
            rw [if_pos htr] at HFK
            clear htr
            have HO6 := hid (own_ext HO.out Y6.out)
            have HXn := hid (Ext.new (ext_refl w6) (.cells #[.int .i64 k] 3))
            have HOx := hid (own_ext HO6.out HXn.out)
            have HSW := hid (HX.out.then (Y6.out.then HXn.out)).size
            obtain ⟨q, hq⟩ : ∃ q, q = (fl k).length := ⟨_, rfl⟩
            rw [← hq] at HOx HLK
            have HQ := hid hq
            clear hq
            go_wp2_with (at_builtin; go_loud (refine wpList_app rfl (.tmp 34) (.tmp 36) rowI rfl _ q (i64s (Tb.ints (fl k))) rfl HOx.out _ 1 (i64s [(k : Int)]) rfl (Src.rd Tryz.underlying60 _ 1 1 _ rfl (rd_lit (by simp) rfl) (i64s_one _) (fun h => by cases h)) (by have := HML.out; have := HLT.out; have := HLK.out; simp only [maxLen] at *; omega) (by have := HML.out; have := HLT.out; have := HLK.out; omega) HSW.out ?_; intro v' w9 hown9 hgrow hat hbel; have HO9 := hid hown9; have XB9 := hid (Below.trans (HX.out.then (Y6.out.then HXn.out)) hbel); clear hown9 hgrow hat hbel))
            go_roundw
            case rel => exact ⟨k + 1, by omega, by go_num, hid (by rw [HFK.out, List.length_append, Tb.ints_snoc, i64s_app, ← HQ.out]; exact HO9.out), XB9⟩
            case measure => simp [intOf]; omega
          | false =>
            rw [htr] at hbe
            rw [if_neg (by rw [htr]; decide)] at HFK
            clear htr
            rw [List.append_nil] at HFK
            go_wp2
            go_roundw
            case rel => exact ⟨k + 1, by omega, by go_num, hid (by rw [HFK.out]; exact own_ext HO.out Y6.out), hid (HX.out.then Y6.out)⟩
            case measure => simp [intOf]; omega
        · obtain rfl : k = M := by omega
          have kBT0 := BT2.out.cell 0
          have kBT1 := BT2.out.cell 1
          go_wp2_with fail
          refine Calls.mono (HRO.out _ XW.out) ?_
          rintro e w4 ⟨rfl, hx⟩
          have Y4 := hid hx
          have BT4 := hid (BT2.out.keep hx)
          clear hx kBT0 kBT1 hlt
          have kBT0 := BT4.out.cell 0
          have kBT1 := BT4.out.cell 1
          obtain ⟨PP, pc, rfl, rp, _⟩ := Rd.owned (own_ext HO.out Y4.out)
          have RP := hid rp
          obtain ⟨q, hq⟩ : ∃ q, q = (fl k).length := ⟨_, rfl⟩
          rw [← hq]
          have HQ := hid hq
          clear rp hq HO
          go_wp2_with fail
          have XB := hid (XW.out.then Y4.out)
          have BR5 := hid (BR.out.keep (HX.out.then Y4.out))
          refine Calls.mono (HPK.out (fl k) PP pc w.heap.size _ ((HV0.out.P.keep XB.out).mono (fun b hb => .inl hb)) RP.out q HQ.out.symm (by have := HFL.out k; have := HML.out; have := HQ.out; omega) (HFT.out k)) ?_
          rintro e w5 ⟨v', rfl, hl, hx⟩
          obtain ⟨A5, n5, c5, D5, m5, d5, rfl⟩ := hl.V.shape
          rw [HFM.out] at hl
          have HL := hid hl
          have HGL := hid BR5.out.lt
          replace X := hid (XB.out.then hx)
          have BR := hid (BR5.out.keep hx)
          clear hl hx kBT0 kBT1
          have q0 := BR.out.cell 0
          have q1 := BR.out.cell 1
          have f0 := BR.out.frozen 0
          have f1 := BR.out.frozen 1
          have ql := BR.out.lt
          go_wp2
          have HBF := hid (((BR.out.set 0 (.slice A5 n5 c5)).set 1 (.slice D5 m5 d5)).cast (cs' := #[.slice A5 n5 c5, .slice D5 m5 d5]) (by simp))
          have XF := hid (Ext.put (Ext.put X.out (p := ⟨w.heap.size + 1, 0, none⟩) (by simp only; omega) (.slice A5 n5 c5)) (p := ⟨w.heap.size + 1, 1, none⟩) (by simp only; omega) (.slice D5 m5 d5))
          refine bodyPost_ret (results_blk2 rfl _ _ (w.heap.size + 1) 25 _ _ rfl HBF.out Tryz.underlying25 rfl (by kernel_rfl)) rfl ?_
          exact ⟨_, by rw [HV.out]; rfl, by rw [HV.out]; exact ((HL.out.put (q := ⟨w.heap.size + 1, 0, none⟩) (by have := HGL.out; unfold OutB; simp only; omega) _).put (q := ⟨w.heap.size + 1, 1, none⟩) (by have := HGL.out; unfold OutB; simp only; omega) _).V, XF.out⟩
    · have HV := hid hE
      have HNE := hid hc0
      have e1 : ((E : Int) == 0) = false := beq_eq_false_iff_ne.2 (by omega)
      have e2 : ((E : Int) != 0) = true := by simp; omega
      clear hv hb hR hE hpn hp hnl hcap h0 hrt hn hm hcols hcc h6 hlen hlim hc0 hEE
      go_enter Tryz.func12, Tryz.ntmps12
      go_upto_region 1 with fail
      refine wp_gen (fun w' => Ext w w' ∧ Blk w' (w.heap.size) 25 #[.slice A n c, .slice B m d] ∧ Blk w' (w.heap.size + 1) 25 #[.slice none 0 0, .slice none 0 0]) ⟨(((ext_refl w)).new _).new _, ((Blk.new _ _ _)).alloc _, (blk_at _ _ (by simp))⟩ ?_
      rintro wz ⟨x0, x1, x2⟩
      have X : Hid (Ext w wz) := hid x0
      have BT := hid x1
      have BR := hid x2
      clear x0 x1 x2
      have kBT0 := BT.out.cell 0
      have kBT1 := BT.out.cell 1
      go_wp2_with fail
      refine Calls.mono (HTC.out _ X.out) ?_
      rintro e w1 ⟨rfl, hx⟩
      replace X := hid (X.out.then hx)
      replace BR := hid (BR.out.keep hx)
      replace BT := hid (BT.out.keep hx)
      clear kBT0 kBT1 hx
      have kBT0 := BT.out.cell 0
      have kBT1 := BT.out.cell 1
      go_wp2_with fail
      refine Calls.mono (HKO.out _ X.out) ?_
      rintro e w2 ⟨vk, rfl, ok, hx⟩
      obtain ⟨K, kc, rfl, rk, _⟩ := Rd.owned ok
      have RK := hid rk
      replace X := hid (X.out.then hx)
      replace BR := hid (BR.out.keep hx)
      replace BT := hid (BT.out.keep hx)
      clear kBT0 kBT1 hx ok rk
      go_wp2_with fail
      refine Calls.mono (HCC.out _ _ _ X.out RK.out) ?_
      rintro e w3 ⟨rfl, hx⟩
      replace X := hid (X.out.then hx)
      replace BR := hid (BR.out.keep hx)
      replace BT := hid (BT.out.keep hx)
      clear hx
      have q0 := BR.out.cell 0
      have q1 := BR.out.cell 1
      have f0 := BR.out.frozen 0
      have f1 := BR.out.frozen 1
      have ql := BR.out.lt
      go_wp2
      have HBF := hid (((BR.out.set 0 (.slice none 0 0)).set 1 (.slice none 0 0)).cast (cs' := #[.slice none 0 0, .slice none 0 0]) (by simp))
      have XF := hid (Ext.put (Ext.put X.out (p := ⟨w.heap.size + 1, 0, none⟩) (by simp only; omega) (.slice none 0 0)) (p := ⟨w.heap.size + 1, 1, none⟩) (by simp only; omega) (.slice none 0 0))
      refine bodyPost_ret (results_blk2 rfl _ _ (w.heap.size + 1) 25 _ _ rfl HBF.out Tryz.underlying25 rfl (by kernel_rfl)) rfl ?_
      exact ⟨_, by rw [HV.out]; rfl, by rw [HV.out, Tb.res_no HNE.out]; exact tb0_V _, XF.out⟩
  · obtain ⟨C, hC⟩ : ∃ C, C = Tb.tbck t := ⟨_, rfl⟩
    rw [← hC] at HTC
    have HV := hid (hR.trans ((Tb.keepE_bad h0).trans hC.symm))
    rw [← hC] at h0
    have HNE := hid h0
    have e1 : ((C : Int) == 0) = false := beq_eq_false_iff_ne.2 (by omega)
    have e2 : ((C : Int) != 0) = true := by simp; omega
    clear hv hb hR hC hpn hp hnl hcap h0
    go_enter Tryz.func12, Tryz.ntmps12
    go_upto_region 1 with fail
    refine wp_gen (fun w' => Ext w w' ∧ Blk w' (w.heap.size) 25 #[.slice A n c, .slice B m d] ∧ Blk w' (w.heap.size + 1) 25 #[.slice none 0 0, .slice none 0 0]) ⟨(((ext_refl w)).new _).new _, ((Blk.new _ _ _)).alloc _, (blk_at _ _ (by simp))⟩ ?_
    rintro wz ⟨x0, x1, x2⟩
    have X : Hid (Ext w wz) := hid x0
    have BT := hid x1
    have BR := hid x2
    clear x0 x1 x2
    have kBT0 := BT.out.cell 0
    have kBT1 := BT.out.cell 1
    go_wp2_with fail
    refine Calls.mono (HTC.out _ X.out) ?_
    rintro e w1 ⟨rfl, hx⟩
    replace X := hid (X.out.then hx)
    replace BR := hid (BR.out.keep hx)
    replace BT := hid (BT.out.keep hx)
    clear kBT0 kBT1 hx
    have q0 := BR.out.cell 0
    have q1 := BR.out.cell 1
    have f0 := BR.out.frozen 0
    have f1 := BR.out.frozen 1
    have ql := BR.out.lt
    go_wp2
    have HBF := hid (((BR.out.set 0 (.slice none 0 0)).set 1 (.slice none 0 0)).cast (cs' := #[.slice none 0 0, .slice none 0 0]) (by simp))
    have XF := hid (Ext.put (Ext.put X.out (p := ⟨w.heap.size + 1, 0, none⟩) (by simp only; omega) (.slice none 0 0)) (p := ⟨w.heap.size + 1, 1, none⟩) (by simp only; omega) (.slice none 0 0))
    refine bodyPost_ret (results_blk2 rfl _ _ (w.heap.size + 1) 25 _ _ rfl HBF.out Tryz.underlying25 rfl (by kernel_rfl)) rfl ?_
    exact ⟨_, by rw [HV.out]; rfl, by rw [HV.out, Tb.res_no HNE.out]; exact tb0_V _, XF.out⟩
set_option maxHeartbeats 6400000 in
set_option maxRecDepth 100000 in
/-- the document's slice -/
theorem sliceOf_any (t : Tb.Tab) (x y : Int) (v : Value) (w : World) (hv : TbV w v t) (hb : TbB t) :
    Calls Tryz.prog 14 #[v, .int .i64 x, .int .i64 y] w fun e w' => ∃ v', e = .returned (.tuple #[v', .int .i64 ((Tb.sliceE t x y : Nat) : Int)]) ∧ TbV w' v' (Tb.res (Tb.sliceE t x y) (Tb.sliceT t x y)) ∧ Ext w w' := by
  have HV0 := hid hv
  have HB := hid hb
  obtain ⟨A, n, c, B, m, d, rfl⟩ := hv.shape
  have HTC := hid (fun wx (hx : Ext w wx) => tabCheck_any t _ wx (HV0.out.keep hx) HB.out)
  have HRO := hid (fun wx (hx : Ext w wx) => rowsOf_any t _ wx (HV0.out.keep hx) HB.out)
  obtain ⟨R, hR⟩ : ∃ R, R = Tb.sliceE t x y := ⟨_, rfl⟩
  rw [← hR]
  by_cases h0 : Tb.tbck t = 0
  · rw [h0] at HTC
    by_cases hxy : x < 0 ∨ y < 0
    · have HV := hid (hR.trans (Tb.sliceE_range h0 hxy))
      have HNE := hid (show (3 : Nat) ≠ 0 by decide)
      clear hv hb hR h0
      have hxy2 : x < 0 ∨ (0 ≤ x ∧ y < 0) := by omega
      clear hxy
      rcases hxy2 with hx0 | ⟨hx0, hy0⟩
      all_goals (
        go_enter Tryz.func14, Tryz.ntmps14
        go_upto_region 1 with fail
        refine wp_gen (fun w' => Ext w w' ∧ Blk w' (w.heap.size) 25 #[.slice A n c, .slice B m d] ∧ Blk w' (w.heap.size + 1) 25 #[.slice none 0 0, .slice none 0 0]) ⟨(((ext_refl w)).new _).new _, ((Blk.new _ _ _)).alloc _, (blk_at _ _ (by simp))⟩ ?_
        rintro wz ⟨x0, x1, x2⟩
        have X : Hid (Ext w wz) := hid x0
        have BT := hid x1
        have BR := hid x2
        clear x0 x1 x2
        have kBT0 := BT.out.cell 0
        have kBT1 := BT.out.cell 1
        go_wp2_with fail
        refine Calls.mono (HTC.out _ X.out) ?_
        rintro e w1 ⟨rfl, hx⟩
        replace X := hid (X.out.then hx)
        replace BR := hid (BR.out.keep hx)
        replace BT := hid (BT.out.keep hx)
        clear kBT0 kBT1 hx
        have q0 := BR.out.cell 0
        have q1 := BR.out.cell 1
        have f0 := BR.out.frozen 0
        have f1 := BR.out.frozen 1
        have ql := BR.out.lt
        go_wp2
        have HBF := hid (((BR.out.set 0 (.slice none 0 0)).set 1 (.slice none 0 0)).cast (cs' := #[.slice none 0 0, .slice none 0 0]) (by simp))
        have XF := hid (Ext.put (Ext.put X.out (p := ⟨w.heap.size + 1, 0, none⟩) (by simp only; omega) (.slice none 0 0)) (p := ⟨w.heap.size + 1, 1, none⟩) (by simp only; omega) (.slice none 0 0))
        refine bodyPost_ret (results_blk2 rfl _ _ (w.heap.size + 1) 25 _ _ rfl HBF.out Tryz.underlying25 rfl (by kernel_rfl)) rfl ?_
        exact ⟨_, by rw [HV.out]; rfl, by rw [HV.out, Tb.res_no HNE.out]; exact tb0_V _, XF.out⟩)
    · obtain ⟨a, rfl⟩ : ∃ a : Nat, x = a := ⟨x.toNat, by omega⟩
      obtain ⟨bb, rfl⟩ : ∃ a : Nat, y = a := ⟨y.toNat, by omega⟩
      have hrt := (Tb.right_iff t).1 h0
      have HV := hid (show R = 0 from hR.trans (Tb.sliceE_ok.2 ⟨hrt, by omega, by omega⟩))
      obtain ⟨M, hM⟩ : ∃ M, M = Tb.many t := ⟨_, rfl⟩
      have hlim := hrt.lim
      have h6 := hrt.six
      have hlen := hrt.len
      rw [← hM] at HRO hlim
      have HPK := hid (fun S PP pc lo wx (hx : TbP (OutB lo wx.heap.size) wx (.agg #[.slice A n c, .slice B m d]) t) (hp : Rd wx PP (i64s (Tb.ints S))) (np' : Nat) (hnp : S.length = np') (h1 : np' ≤ 1000) (hi : ∀ i ∈ S, i < M) => picked_any t S PP np' pc _ lo wx hx hp hnp h1 (by omega) (fun i hi' l hl => by rw [hrt.row l hl, ← hM]; exact hi i hi') (fun l hl => by rw [hrt.row l hl, ← hM]; omega))
      have HKL := hid (show Tb.pick t ((List.range M).filter (Tb.selF a bb)) = Tb.sliceT t a bb from by rw [hM]; exact Tb.slice_law hrt a bb)
      have HFS := hid (Tb.filt_snoc (Tb.selF a bb))
      have HML := hid hlim
      have hMI : (M : Int) ≤ 128 := by omega
      have ha0 : (0 : Int) ≤ (a : Int) := by omega
      have hb0' : (0 : Int) ≤ (bb : Int) := by omega
      clear hv hb hR h0 hxy hrt hlim h6 hlen hM
      go_enter Tryz.func14, Tryz.ntmps14
      go_upto_region 1 with fail
      refine wp_gen (fun w' => Ext w w' ∧ Blk w' (w.heap.size) 25 #[.slice A n c, .slice B m d] ∧ Blk w' (w.heap.size + 1) 25 #[.slice none 0 0, .slice none 0 0]) ⟨(((ext_refl w)).new _).new _, ((Blk.new _ _ _)).alloc _, (blk_at _ _ (by simp))⟩ ?_
      rintro wz ⟨x0, x1, x2⟩
      have X : Hid (Ext w wz) := hid x0
      have BT := hid x1
      have BR := hid x2
      clear x0 x1 x2
      have kBT0 := BT.out.cell 0
      have kBT1 := BT.out.cell 1
      go_wp2_with fail
      refine Calls.mono (HTC.out _ X.out) ?_
      rintro e w3 ⟨rfl, hx⟩
      replace X := hid (X.out.then hx)
      replace BR := hid (BR.out.keep hx)
      replace BT := hid (BT.out.keep hx)
      clear kBT0 kBT1 hx
      have HS3 := hid X.out.size
      obtain ⟨fl, hfl⟩ : ∃ fl, fl = fun k => (List.range k).filter (Tb.selF a bb) := ⟨_, rfl⟩
      have HF0 := hid (show fl 0 = [] by rw [hfl]; rfl)
      have HFM := hid (show Tb.pick t (fl M) = Tb.sliceT t a bb by rw [hfl]; exact HKL.out)
      have HFS2 := hid (show ∀ k, fl (k + 1) = fl k ++ (if Tb.selF a bb k = true then [k] else []) by rw [hfl]; exact HFS.out)
      have HFL := hid (show ∀ k, (fl k).length ≤ k by intro k; rw [hfl]; exact Tb.filt_le _ k)
      have HFT := hid (show ∀ k, ∀ i ∈ fl k, i < k by intro k i hi; rw [hfl] at hi; exact Tb.filt_lt hi)
      clear hfl HKL HFS
      go_wp2
      go_loopw [9, 10] (fun o ii wr => ∃ k : Nat, k ≤ M ∧ ii = .int .i64 k ∧ Hid (wr.ownsRow w3.heap.size 3 1 o (fl k).length (i64s (Tb.ints (fl k)))) ∧ Hid (Ext w3 wr)) (fun _ ii _ => M - (intOf ii).toNat)
      case atStart => exact ⟨0, Nat.zero_le _, rfl, hid (by rw [HF0.out]; exact World.ownsRow_nil _ _ _ _), hid (ext_refl _)⟩
      case round =>
        obtain ⟨k, hk, rfl, HO, HX⟩ := hrel
        have XW := hid (X.out.then HX.out)
        have BT2 := hid (BT.out.keep HX.out)
        by_cases hlt : k < M
        · have hlI : (k : Int) < (M : Int) := by omega
          have hk0 : (0 : Int) ≤ (k : Int) := by omega
          have HLT := hid hlt
          have HFK := hid (HFS2.out k)
          have HLK := hid (HFL.out k)
          have K3 : ((k : Int) < (a : Int) ∧ Tb.selF a bb k = false) ∨ ((a : Int) ≤ (k : Int) ∧ (k : Int) - (a : Int) < (bb : Int) ∧ Tb.selF a bb k = true) ∨ ((a : Int) ≤ (k : Int) ∧ (bb : Int) ≤ (k : Int) - (a : Int) ∧ Tb.selF a bb k = false) := by
            unfold Tb.selF
            by_cases h1 : (k : Int) < (a : Int)
            · exact .inl ⟨h1, decide_eq_false (by omega)⟩
            · by_cases h2 : (k : Int) - (a : Int) < (bb : Int)
              · exact .inr (.inl ⟨by omega, h2, decide_eq_true ⟨by omega, h2⟩⟩)
              · exact .inr (.inr ⟨by omega, by omega, decide_eq_false (by omega)⟩)
          clear hlt
          rcases K3 with ⟨g1, g3⟩ | ⟨g1, g2, g3⟩ | ⟨g1, g2, g3⟩
          · rw [if_neg (by rw [g3]; decide)] at HFK
            clear g3
            have kBT0 := BT2.out.cell 0
            have kBT1 := BT2.out.cell 1
            go_wp2_with fail
            refine Calls.mono (HRO.out _ XW.out) ?_
            rintro e w4 ⟨rfl, hx⟩
            have Y4 := hid hx
            clear hx kBT0 kBT1
            rw [List.append_nil] at HFK
            go_wp2
            go_roundw
            case rel => exact ⟨k + 1, by omega, by go_num, hid (by rw [HFK.out]; exact own_ext HO.out Y4.out), hid (HX.out.then Y4.out)⟩
            case measure => simp [intOf]; omega
          · rw [if_pos g3] at HFK
            clear g3
            have kBT0 := BT2.out.cell 0
            have kBT1 := BT2.out.cell 1
            go_wp2_with fail
            refine Calls.mono (HRO.out _ XW.out) ?_
            rintro e w4 ⟨rfl, hx⟩
            have Y4 := hid hx
            clear hx kBT0 kBT1
            have HO6 := hid (own_ext HO.out Y4.out)
            have HXn := hid (Ext.new (ext_refl w4) (.cells #[.int .i64 k] 3))
            have HOx := hid (own_ext HO6.out HXn.out)
            have HSW := hid (HX.out.then (Y4.out.then HXn.out)).size
            obtain ⟨q, hq⟩ : ∃ q, q = (fl k).length := ⟨_, rfl⟩
            rw [← hq] at HOx HLK
            have HQ := hid hq
            clear hq
            go_wp2_with (at_builtin; go_loud (refine wpList_app rfl (.tmp 43) (.tmp 45) rowI rfl _ q (i64s (Tb.ints (fl k))) rfl HOx.out _ 1 (i64s [(k : Int)]) rfl (Src.rd Tryz.underlying60 _ 1 1 _ rfl (rd_lit (by simp) rfl) (i64s_one _) (fun h => by cases h)) (by have := HML.out; have := HLT.out; have := HLK.out; simp only [maxLen] at *; omega) (by have := HML.out; have := HLT.out; have := HLK.out; omega) HSW.out ?_; intro v' w9 hown9 hgrow hat hbel; have HO9 := hid hown9; have XB9 := hid (Below.trans (HX.out.then (Y4.out.then HXn.out)) hbel); clear hown9 hgrow hat hbel))
            go_roundw
            case rel => exact ⟨k + 1, by omega, by go_num, hid (by rw [HFK.out, List.length_append, Tb.ints_snoc, i64s_app, ← HQ.out]; exact HO9.out), XB9⟩
            case measure => simp [intOf]; omega
          · rw [if_neg (by rw [g3]; decide)] at HFK
            clear g3
            have kBT0 := BT2.out.cell 0
            have kBT1 := BT2.out.cell 1
            go_wp2_with fail
            refine Calls.mono (HRO.out _ XW.out) ?_
            rintro e w4 ⟨rfl, hx⟩
            have Y4 := hid hx
            clear hx kBT0 kBT1
            rw [List.append_nil] at HFK
            go_wp2
            go_roundw
            case rel => exact ⟨k + 1, by omega, by go_num, hid (by rw [HFK.out]; exact own_ext HO.out Y4.out), hid (HX.out.then Y4.out)⟩
            case measure => simp [intOf]; omega
        · obtain rfl : k = M := by omega
          have kBT0 := BT2.out.cell 0
          have kBT1 := BT2.out.cell 1
          go_wp2_with fail
          refine Calls.mono (HRO.out _ XW.out) ?_
          rintro e w4 ⟨rfl, hx⟩
          have Y4 := hid hx
          have BT4 := hid (BT2.out.keep hx)
          clear hx kBT0 kBT1 hlt
          have kBT0 := BT4.out.cell 0
          have kBT1 := BT4.out.cell 1
          obtain ⟨PP, pc, rfl, rp, _⟩ := Rd.owned (own_ext HO.out Y4.out)
          have RP := hid rp
          obtain ⟨q, hq⟩ : ∃ q, q = (fl k).length := ⟨_, rfl⟩
          rw [← hq]
          have HQ := hid hq
          clear rp hq HO
          go_wp2_with fail
          have XB := hid (XW.out.then Y4.out)
          have BR5 := hid (BR.out.keep (HX.out.then Y4.out))
          refine Calls.mono (HPK.out (fl k) PP pc w.heap.size _ ((HV0.out.P.keep XB.out).mono (fun b hb => .inl hb)) RP.out q HQ.out.symm (by have := HFL.out k; have := HML.out; have := HQ.out; omega) (HFT.out k)) ?_
          rintro e w5 ⟨v', rfl, hl, hx⟩
          obtain ⟨A5, n5, c5, D5, m5, d5, rfl⟩ := hl.V.shape
          rw [HFM.out] at hl
          have HL := hid hl
          have HGL := hid BR5.out.lt
          replace X := hid (XB.out.then hx)
          have BR := hid (BR5.out.keep hx)
          clear hl hx kBT0 kBT1
          have q0 := BR.out.cell 0
          have q1 := BR.out.cell 1
          have f0 := BR.out.frozen 0
          have f1 := BR.out.frozen 1
          have ql := BR.out.lt
          go_wp2
          have HBF := hid (((BR.out.set 0 (.slice A5 n5 c5)).set 1 (.slice D5 m5 d5)).cast (cs' := #[.slice A5 n5 c5, .slice D5 m5 d5]) (by simp))
          have XF := hid (Ext.put (Ext.put X.out (p := ⟨w.heap.size + 1, 0, none⟩) (by simp only; omega) (.slice A5 n5 c5)) (p := ⟨w.heap.size + 1, 1, none⟩) (by simp only; omega) (.slice D5 m5 d5))
          refine bodyPost_ret (results_blk2 rfl _ _ (w.heap.size + 1) 25 _ _ rfl HBF.out Tryz.underlying25 rfl (by kernel_rfl)) rfl ?_
          exact ⟨_, by rw [HV.out]; rfl, by rw [HV.out]; exact ((HL.out.put (q := ⟨w.heap.size + 1, 0, none⟩) (by have := HGL.out; unfold OutB; simp only; omega) _).put (q := ⟨w.heap.size + 1, 1, none⟩) (by have := HGL.out; unfold OutB; simp only; omega) _).V, XF.out⟩
  · obtain ⟨C, hC⟩ : ∃ C, C = Tb.tbck t := ⟨_, rfl⟩
    rw [← hC] at HTC
    have HV := hid (hR.trans ((Tb.sliceE_bad h0).trans hC.symm))
    rw [← hC] at h0
    have HNE := hid h0
    have e1 : ((C : Int) == 0) = false := beq_eq_false_iff_ne.2 (by omega)
    have e2 : ((C : Int) != 0) = true := by simp; omega
    clear hv hb hR hC h0
    go_enter Tryz.func14, Tryz.ntmps14
    go_upto_region 1 with fail
    refine wp_gen (fun w' => Ext w w' ∧ Blk w' (w.heap.size) 25 #[.slice A n c, .slice B m d] ∧ Blk w' (w.heap.size + 1) 25 #[.slice none 0 0, .slice none 0 0]) ⟨(((ext_refl w)).new _).new _, ((Blk.new _ _ _)).alloc _, (blk_at _ _ (by simp))⟩ ?_
    rintro wz ⟨x0, x1, x2⟩
    have X : Hid (Ext w wz) := hid x0
    have BT := hid x1
    have BR := hid x2
    clear x0 x1 x2
    have kBT0 := BT.out.cell 0
    have kBT1 := BT.out.cell 1
    go_wp2_with fail
    refine Calls.mono (HTC.out _ X.out) ?_
    rintro e w1 ⟨rfl, hx⟩
    replace X := hid (X.out.then hx)
    replace BR := hid (BR.out.keep hx)
    replace BT := hid (BT.out.keep hx)
    clear kBT0 kBT1 hx
    have q0 := BR.out.cell 0
    have q1 := BR.out.cell 1
    have f0 := BR.out.frozen 0
    have f1 := BR.out.frozen 1
    have ql := BR.out.lt
    go_wp2
    have HBF := hid (((BR.out.set 0 (.slice none 0 0)).set 1 (.slice none 0 0)).cast (cs' := #[.slice none 0 0, .slice none 0 0]) (by simp))
    have XF := hid (Ext.put (Ext.put X.out (p := ⟨w.heap.size + 1, 0, none⟩) (by simp only; omega) (.slice none 0 0)) (p := ⟨w.heap.size + 1, 1, none⟩) (by simp only; omega) (.slice none 0 0))
    refine bodyPost_ret (results_blk2 rfl _ _ (w.heap.size + 1) 25 _ _ rfl HBF.out Tryz.underlying25 rfl (by kernel_rfl)) rfl ?_
    exact ⟨_, by rw [HV.out]; rfl, by rw [HV.out, Tb.res_no HNE.out]; exact tb0_V _, XF.out⟩
end Go.Proofs.YtolhifnlahllnaaGreatDoor
