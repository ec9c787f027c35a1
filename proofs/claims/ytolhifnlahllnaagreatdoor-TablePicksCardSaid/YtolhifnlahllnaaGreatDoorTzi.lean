/- Tables, the document: RedactOf: walk (printed by gen_tzi.py). -/
import Derived.Test.YtolhifnlahllnaaGreatDoorTzd
import Derived.Test.YtolhifnlahllnaaGreatDoorTze
import Derived.Test.YtolhifnlahllnaaGreatDoorGhx
namespace Go.Proofs.YtolhifnlahllnaaGreatDoor
open Go.RowKit Hy
structure RdInv (y0 : World) (A : Option Addr) (n c m : Nat) (L : List Rw) (f : Nat → Bool) (v : Nat → Value) (w : World) : Prop where
  e : Ext y0 w
  c2 : f 2 = true → f 5 = false → w.ownsRow y0.heap.size 45 1 (v 2) 0 []
  c5 : f 5 = true → ∃ B' d', v 5 = .slice B' m d' ∧ w.ownsRow y0.heap.size 45 1 (.slice B' m d') m (rws' L)
  c6 : f 6 = true → v 6 = .agg #[.slice A n c, v 5]
  c7 : f 7 = true → ∃ g, v 7 = .pointer (some ⟨g, 0, none⟩) ∧ y0.heap.size ≤ g ∧ (f 8 = false → Blk w g 25 #[.slice none 0 0, .slice none 0 0])
  c8 : f 8 = true → ∃ g B' d', v 7 = .pointer (some ⟨g, 0, none⟩) ∧ v 5 = .slice B' m d' ∧ y0.heap.size ≤ g ∧ Blk w g 25 #[.slice A n c, .slice B' m d']
set_option maxHeartbeats 12800000 in
set_option maxRecDepth 100000 in
/-- the document's table with cells of a column redacted -/
theorem redOf_any (t : Tb.Tab) (s : ByteArray) (p : List Cnd) (P : Option Addr) (np pcap : Nat) (v : Value) (w : World) (hv : TbV w v t) (hb : TbB t) (hpn : p.length = np) (hp : Rd w P (cns p)) (hnl : np ≤ 140737488355328) (hcap : np ≤ pcap) :
    Calls Tryz.prog 11 #[v, .string s, .slice P np pcap] w fun e w' => ∃ v', e = .returned (.tuple #[v', .int .i64 ((Tb.redE t s p : Nat) : Int)]) ∧ TbV w' v' (Tb.res (Tb.redE t s p) (Tb.redT t s p)) ∧ Ext w w' := by
  have HV0 := hid hv
  have HB := hid hb
  obtain ⟨A, n, c, B, m, d, rfl⟩ := hv.shape
  have HTC := hid (fun wx (hx : Ext w wx) => tabCheck_any t _ wx (HV0.out.keep hx) HB.out)
  have HRO := hid (fun wx (hx : Ext w wx) => rowsOf_any t _ wx (HV0.out.keep hx) HB.out)
  have HP := hid hp
  obtain ⟨R, hR⟩ : ∃ R, R = Tb.redE t s p := ⟨_, rfl⟩
  rw [← hR]
  obtain ⟨L, hn, hm, h1, h2, hL, hok, hc⟩ := tb_parts hv
  have hbn := hb.n
  have HAT := hid (fun wy (hx : Ext w wy) => show Calls Tryz.prog 31 #[.slice A n c, .string s] wy fun e w' => e = .returned (.int .i64 (Tb.ixc t.1 s 0)) ∧ Ext wy w' from Calls.mono (colAt_any t.1 s A n c wy hn.symm (h1.keep hx) (by omega)) (by rintro e w' ⟨h, rfl⟩; exact ⟨h, ext_refl _⟩))
  obtain ⟨ix, hix⟩ : ∃ x, x = Tb.ixc t.1 s 0 := ⟨_, rfl⟩
  rw [← hix] at HAT
  by_cases h0 : Tb.tbck t = 0
  · rw [h0] at HTC
    have hz : A = none → t.1.length = 0 := by
      obtain ⟨A', c', B', d', L', e, _, _, _, _, q5, _, _⟩ := hv
      simp only [Value.agg.injEq, Array.mk.injEq, List.cons.injEq, Value.slice.injEq] at e
      rw [e.1.1]; exact q5
    have hzb : B = none → m = 0 := by
      obtain ⟨A', c', B', d', L', e, _, _, _, _, _, q6, _⟩ := hv
      simp only [Value.agg.injEq, Array.mk.injEq, List.cons.injEq, Value.slice.injEq] at e
      rw [e.2.1.1, e.2.1.2.1]; exact q6
    have HZB0 := hid hzb
    by_cases hneg : ix < 0
    · have HV := hid (hR.trans (Tb.redE_none h0 (by rw [← hix]; exact hneg)))
      have HNE := hid (show (5 : Nat) ≠ 0 by decide)
      clear hv hb hR h0 hpn hp hnl hcap hn hm h1 h2 hL hok hc hbn hix hz hzb
      go_enter Tryz.func11, Tryz.ntmps11
      go_upto_region 1 with fail
      refine wp_gen (fun w' => Ext w w' ∧ Blk w' (w.heap.size) 25 #[.slice A n c, .slice B m d] ∧ Blk w' (w.heap.size + 1) 25 #[.slice none 0 0, .slice none 0 0]) ⟨(((ext_refl w)).new _).new _, ((Blk.new _ _ _)).alloc _, (blk_at _ _ (by simp))⟩ ?_
      rintro wz ⟨x0, x1, x2⟩
      have X : Hid (Ext w wz) := hid x0
      have BT := hid x1
      have BR := hid x2
      clear x0 x1 x2
      have kBT0 := BT.out.cell 0
      have kBT1 := BT.out.cell 1
      go_wp2_with fail
      refine Calls.mono (HTC.out _ X.out) ?_
      rintro e w0 ⟨rfl, hx⟩
      replace X := hid (X.out.then hx)
      replace BR := hid (BR.out.keep hx)
      replace BT := hid (BT.out.keep hx)
      clear kBT0 kBT1 hx
      have kBT0 := BT.out.cell 0
      have kBT1 := BT.out.cell 1
      go_wp2_with fail
      refine Calls.mono (HAT.out _ X.out) ?_
      rintro e w1 ⟨rfl, hx⟩
      replace X := hid (X.out.then hx)
      replace BR := hid (BR.out.keep hx)
      replace BT := hid (BT.out.keep hx)
      clear kBT0 kBT1 hx
      have q0 := BR.out.cell 0
      have q1 := BR.out.cell 1
      have f0 := BR.out.frozen 0
      have f1 := BR.out.frozen 1
      have ql := BR.out.lt
      go_wp2
      have HBF := hid (((BR.out.set 0 (.slice none 0 0)).set 1 (.slice none 0 0)).cast (cs' := #[.slice none 0 0, .slice none 0 0]) (by simp))
      have XF := hid (Ext.put (Ext.put X.out (p := ⟨w.heap.size + 1, 0, none⟩) (by simp only; omega) (.slice none 0 0)) (p := ⟨w.heap.size + 1, 1, none⟩) (by simp only; omega) (.slice none 0 0))
      refine bodyPost_ret (results_blk2 rfl _ _ (w.heap.size + 1) 25 _ _ rfl HBF.out Tryz.underlying25 rfl (by kernel_rfl)) rfl ?_
      exact ⟨_, by rw [HV.out]; rfl, by rw [HV.out, Tb.res_no HNE.out]; exact tb0_V _, XF.out⟩
    · have hrt := (Tb.right_iff t).1 h0
      have hng : ¬ Tb.ixc t.1 s 0 < 0 := by rw [← hix]; exact hneg
      have hmem := Tb.not_neg hng
      have hE := hR.trans (Tb.redE_chk (p := p) h0 hng)
      have h6 := hrt.six
      have hlen := hrt.len
      have hlim := hrt.lim
      obtain ⟨hak, hnme, hixe⟩ := Tb.at_name hrt hmem
      obtain ⟨a, ha⟩ : ∃ a, a = Tb.at0 t s := ⟨_, rfl⟩
      have hixa : ix = (a : Int) := by rw [hix, hixe, ha]
      subst hixa
      have hak1 : a < t.2.length := by rw [ha, ← hlen]; exact hak
      have HKO := hid (fun wx (hx : Ext w wx) => kindsOf_any t.1 A n c wx hn.symm (h1.keep hx) (by omega))
      have HCC := hid (fun K kc wx (hx : Ext w wx) (hk : Rd wx K (i64s (Tb.knds t.1))) => condCheck_any (Tb.knds t.1) p P K np pcap n kc wx hpn (HP.out.keep hx) hnl (by rw [Tb.knds_len, hn]) hk (by omega))
      obtain ⟨E, hEE⟩ : ∃ E, E = Cnd.chk (Tb.knds t.1) p := ⟨_, rfl⟩
      rw [← hEE] at HCC hE
      have hge : (0 : Int) ≤ (a : Int) := by omega
      by_cases hc0 : E = 0
      · subst hc0
        have HV := hid hE
        obtain ⟨M, hM⟩ : ∃ M, M = Tb.many t := ⟨_, rfl⟩
        rw [← hM] at HRO hlim
        have HLAW := hid (show (t.1, t.2.set a (Tb.redl (Tb.tr p t.2) M t.2[a])) = Tb.redT t s p from by subst ha; rw [hM]; exact Tb.red_law hrt hak1)
        have HRA := hid (fun i wx (hx : Ext w wx) (hi : i < M) => rowAt_any t i _ wx (HV0.out.keep hx) (by omega) (fun l hl => by rw [hrt.row l hl, ← hM]; exact hi) (fun l hl => by rw [hrt.row l hl, ← hM]; omega))
        have HCO := hid (fun i Rw rc wx (hx : Ext w wx) (hr : Rd wx Rw (cls (Tb.rowAt t.2 i))) => condOf_any (Tb.knds t.1) p (Tb.rowAt t.2 i) P Rw np pcap m rc wx hEE.symm hpn hcap (HP.out.keep hx) (by rw [Tb.row_len, hm]) (by rw [Tb.knds_len, hlen, hm]) (by omega) hr (Tb.row_size hrt i))
        have HTR := hid (fun i => show (Cnd.val (Cnd.askf (Tb.rowAt t.2 i)) Cnd.jn p = 2) = (Tb.tr p t.2 i = true) by unfold Tb.tr; simp)
        have HML := hid hlim
        have hMI : (M : Int) ≤ 128 := by omega
        have hnm : t.2.length = m := hm.symm
        rw [hnm] at HRA
        have hLl : L.length = t.2.length := by rw [← hL, List.length_map]
        have hkL : a < L.length := by rw [hLl]; exact hak1
        have HLLM := hid (show L.length = m by rw [hLl, hnm])
        have hdk : L[a].2 = t.2[a] := by simp [← hL]
        obtain ⟨b2, o2, e2, l2, c2⟩ := h2.rows a hkL
        have HRC := hid (c2 a hkL)
        have HRW := hid (hok _ (List.getElem_mem hkL))
        have HXL := hid (show L[a].2.length = M by rw [hdk, hrt.row _ (List.getElem_mem hak1), hM])
        have hamI : (a : Int) < (m : Int) := by omega
        have HAM := hid (show a < m by omega)
        rw [← hdk] at HLAW
        have HRS := hid (Tb.redl_succ (Tb.tr p t.2))
        have HNN := hid hn; have HM := hid hm
        have HA := hid h1; have HBRw := hid h2; have HLM := hid hL; have HOK := hid hok; have HCC0 := hid hc
        have HZ := hid hz
        have HM6 := hid (show m ≤ 6 by omega)
        have he2 := hid e2
        generalize hxa : L[a].2 = xa at *
        generalize hhd : L[a].1 = hd at *
        obtain ⟨Aa, la, ca⟩ := hd
        simp only at HRC
        have HRW2 := hid (show xa.length = la ∧ Rd w Aa (cls xa) by have h := HRW.out; unfold RwOk at h; rw [hxa, hhd] at h; exact ⟨h.1, h.2.2.2⟩)
        clear HRW
        clear hv hb hR h0 hpn hp hnl hcap hn hm h1 h2 hL hok hc hbn hix hneg hrt hng hmem hE h6 hlen hlim hak hnme hixe ha hak1 hEE hM hnm hLl hkL hdk l2 c2 e2 hxa hhd hz hzb
        have HZB := hid (show some (⟨b2, o2, none⟩ : Addr) = none → m = 0 from fun h => by cases h)
        have e2 := he2.out
        subst e2
        go_enter Tryz.func11, Tryz.ntmps11
        go_upto_region 1 with fail
        refine wp_gen (fun w' => Ext w w' ∧ Blk w' (w.heap.size) 25 #[.slice A n c, .slice (some ⟨b2, o2, none⟩) m d] ∧ Blk w' (w.heap.size + 1) 25 #[.slice none 0 0, .slice none 0 0]) ⟨(((ext_refl w)).new _).new _, ((Blk.new _ _ _)).alloc _, (blk_at _ _ (by simp))⟩ ?_
        rintro wz ⟨x0, x1, x2⟩
        have X : Hid (Ext w wz) := hid x0
        have BT := hid x1
        have BR := hid x2
        clear x0 x1 x2
        have kBT0 := BT.out.cell 0
        have kBT1 := BT.out.cell 1
        go_wp2_with fail
        refine Calls.mono (HTC.out _ X.out) ?_
        rintro e w0 ⟨rfl, hx⟩
        replace X := hid (X.out.then hx)
        replace BR := hid (BR.out.keep hx)
        replace BT := hid (BT.out.keep hx)
        clear kBT0 kBT1 hx
        have kBT0 := BT.out.cell 0
        have kBT1 := BT.out.cell 1
        go_wp2_with fail
        refine Calls.mono (HAT.out _ X.out) ?_
        rintro e w1 ⟨rfl, hx⟩
        replace X := hid (X.out.then hx)
        replace BR := hid (BR.out.keep hx)
        replace BT := hid (BT.out.keep hx)
        clear kBT0 kBT1 hx
        have kBT0 := BT.out.cell 0
        have kBT1 := BT.out.cell 1
        go_wp2_with fail
        refine Calls.mono (HKO.out _ X.out) ?_
        rintro e w2 ⟨vk, rfl, ok, hx⟩
        obtain ⟨K, kc, rfl, rk, _⟩ := Rd.owned ok
        have RK := hid rk
        replace X := hid (X.out.then hx)
        replace BR := hid (BR.out.keep hx)
        replace BT := hid (BT.out.keep hx)
        clear kBT0 kBT1 hx ok rk
        go_wp2_with fail
        refine Calls.mono (HCC.out _ _ _ X.out RK.out) ?_
        rintro e w3 ⟨rfl, hx⟩
        replace X := hid (X.out.then hx)
        replace BR := hid (BR.out.keep hx)
        replace BT := hid (BT.out.keep hx)
        clear hx
        have BR3 := hid BR.out
        go_wp2
        go_loopw [10, 11] (fun o ii wr => ∃ k : Nat, k ≤ M ∧ ii = .int .i64 k ∧ Hid (wr.ownsRow w3.heap.size 42 3 o k (cls (Tb.redl (Tb.tr p t.2) k xa))) ∧ Hid (Ext w3 wr)) (fun _ ii _ => M - (intOf ii).toNat)
        case atStart => exact ⟨0, Nat.zero_le _, rfl, hid (World.ownsRow_nil _ _ _ _), hid (ext_refl _)⟩
        case round =>
          obtain ⟨k, hk, rfl, HO, HX⟩ := hrel
          have XW := hid (X.out.then HX.out)
          have BT2 := hid (BT.out.keep HX.out)
          by_cases hlt : k < M
          · have hlI : (k : Int) < (M : Int) := by omega
            have HLT := hid hlt
            have kBT0 := BT2.out.cell 0
            have kBT1 := BT2.out.cell 1
            go_wp2_with fail
            refine Calls.mono (HRO.out _ XW.out) ?_
            rintro e w4 ⟨rfl, hx⟩
            have Y4 := hid hx
            have BT4 := hid (BT2.out.keep hx)
            clear hx kBT0 kBT1
            have kBT0 := BT4.out.cell 0
            have kBT1 := BT4.out.cell 1
            go_wp2_with fail
            refine Calls.mono (HRA.out k _ (XW.out.then Y4.out) HLT.out) ?_
            rintro e w5 ⟨vr, rfl, ho, hx⟩
            obtain ⟨Rw, rc, rfl, hrd, _⟩ := Rd.owned ho
            have Y5 := hid (Y4.out.then hx)
            have HRD := hid hrd
            clear hx ho hrd kBT0 kBT1
            go_wp2_with fail
            refine Calls.mono (HCO.out k Rw rc _ (XW.out.then Y5.out) HRD.out) ?_
            rintro e w6 ⟨rfl, hx⟩
            have Y6 := hid (Y5.out.then hx)
            clear hx
            have HT := hid (HTR.out k)
            have hbe : ((Cnd.val (Cnd.askf (Tb.rowAt t.2 k)) Cnd.jn p : Int) == 2) = Tb.tr p t.2 k := by
              have := HT.out
              rw [Bool.eq_iff_iff, ← this]
              rw [beq_iff_eq]; omega
            have HSK := hid (HRS.out k xa)
            generalize Cnd.val (Cnd.askf (Tb.rowAt t.2 k)) Cnd.jn p = z at *
            obtain ⟨Z0, hZ0⟩ : ∃ Z, Z = Tb.redl (Tb.tr p t.2) k xa := ⟨_, rfl⟩
            rw [← hZ0] at HSK HO
            clear HT hZ0
            cases htr : Tb.tr p t.2 k with
            | true =>
              rw [htr] at hbe
              rw [if_pos htr] at HSK
              clear htr
              have HO6 := hid (own_ext HO.out Y6.out)
              have HXn := hid (Ext.new (ext_refl w6) (.cells #[.int .i64 0, .int .u64 0, .string ⟨#[]⟩] 42))
              have HOx := hid (own_ext HO6.out HXn.out)
              have HSW := hid (HX.out.then (Y6.out.then HXn.out)).size
              go_wp2_with (at_builtin; go_loud (refine wpList_app rfl (.tmp 48) (.tmp 50) rowCe rfl _ k (cls Z0) rfl HOx.out _ 1 (cls [Cnd.O]) rfl (Src.rd Tryz.underlying45 _ 1 1 (cls [Cnd.O]) rfl (rd_lit (w := w6) (g := w6.heap.size) (C := #[.int .i64 0, .int .u64 0, .string ⟨#[]⟩]) (e := 42) (fz := (0, 0)) (cs := cls [Cnd.O]) rfl rfl) (cls_one _) (fun h => by cases h)) (by have := HML.out; have := HLT.out; simp only [maxLen] at *; omega) (by have := HML.out; have := HLT.out; omega) HSW.out ?_; intro v' w9 hown9 hgrow hat hbel; have HO9 := hid hown9; have XB9 := hid (Below.trans (HX.out.then (Y6.out.then HXn.out)) hbel); clear hown9 hgrow hat hbel))
              go_roundw
              case rel => exact ⟨k + 1, by omega, by go_num, hid (by rw [HSK.out, cls_app]; exact HO9.out), XB9⟩
              case measure => simp [intOf]; omega
            | false =>
              rw [htr] at hbe
              rw [if_neg (by rw [htr]; decide)] at HSK
              clear htr
              have hkx : k < xa.length := by rw [HXL.out]; exact HLT.out
              obtain ⟨b3, o3, e3, l3, c3⟩ := HRW2.out.2.cels k hkx
              have XW6 := hid (XW.out.then Y6.out)
              obtain ⟨q0, q1, q2⟩ := c3 k hkx
              replace q0 := ext_cell XW6.out q0
              replace q1 := ext_cell XW6.out q1
              replace q2 := ext_cell XW6.out q2
              have r0 := ext_cell XW6.out HRC.out
              have hxx : xa.getD k Cnd.O = xa[k] := by rw [List.getD_eq_getElem?_getD, List.getElem?_eq_getElem hkx]; rfl
              rw [hxx] at HSK
              have hklI : (k : Int) < (la : Int) := by rw [← HRW2.out.1]; omega
              have hlaI : (la : Int) ≤ 128 := by rw [← HRW2.out.1, HXL.out]; omega
              have kBT1 := (BT2.out.keep Y6.out).cell 1
              generalize xa[k] = x at *
              obtain ⟨y, zz, ss⟩ := x
              simp only at q0 q1 q2
              have he3 := hid e3
              clear c3 l3 hxx hkx e3
              have e3 := he3.out
              subst e3
              have HO6 := hid (own_ext HO.out Y6.out)
              have HXn := hid (Ext.new (ext_refl w6) (.cells #[.int .i64 y, .int .u64 (zz : Nat), .string ss] 42))
              have HOx := hid (own_ext HO6.out HXn.out)
              have HSW := hid (HX.out.then (Y6.out.then HXn.out)).size
              go_wp2_with (at_builtin; go_loud (refine wpList_app rfl (.tmp 52) (.tmp 61) rowCe rfl _ k (cls Z0) rfl HOx.out _ 1 (cls [(y, zz, ss)]) rfl (Src.rd Tryz.underlying45 _ 1 1 (cls [(y, zz, ss)]) rfl (rd_lit (w := w6) (g := w6.heap.size) (C := #[.int .i64 y, .int .u64 (zz : Nat), .string ss]) (e := 42) (fz := (0, 0)) (cs := cls [(y, zz, ss)]) rfl rfl) (cls_one _) (fun h => by cases h)) (by have := HML.out; have := HLT.out; simp only [maxLen] at *; omega) (by have := HML.out; have := HLT.out; omega) HSW.out ?_; intro v' w9 hown9 hgrow hat hbel; have HO9 := hid hown9; have XB9 := hid (Below.trans (HX.out.then (Y6.out.then HXn.out)) hbel); clear hown9 hgrow hat hbel))
              go_roundw
              case rel => exact ⟨k + 1, by omega, by go_num, hid (by rw [HSK.out, cls_app]; exact HO9.out), XB9⟩
              case measure => simp [intOf]; omega
          · obtain rfl : k = M := by omega
            have kBT0 := BT2.out.cell 0
            have kBT1 := BT2.out.cell 1
            go_wp2_with fail
            refine Calls.mono (HRO.out _ XW.out) ?_
            rintro e w4 ⟨rfl, hx⟩
            have Y4 := hid hx
            have X4 := hid (XW.out.then hx)
            have BT4 := hid (BT2.out.keep hx)
            have BR4 := hid (BR.out.keep (HX.out.then hx))
            have HO4 := hid (own_ext HO.out hx)
            have HW4 := hid (HX.out.then hx)
            clear hx kBT0 kBT1 hlt HO
            obtain ⟨Al, cl, rfl, _⟩ := Rd.owned HO4.out
            obtain ⟨lst, hlst⟩ : ∃ l, l = Tb.redl (Tb.tr p t.2) k xa := ⟨_, rfl⟩
            rw [← hlst] at HO4 HLAW
            clear hlst
            have kBT0 := BT4.out.cell 0
            have kBT1 := BT4.out.cell 1
            have HBRz := hid (HBRw.out.keep X4.out)
            go_upto_region 16 with fail
            have kBT0r := cell_regrown kBT0
            have kBT1r := cell_regrown kBT1
            refine wp_region_inv [] [0, 1, 3, 4] [(2, []), (5, [2]), (6, [5]), (7, []), (8, [6, 7])] (by kernel_rfl) (by kernel_rfl) (fun _ _ _ _ _ h => h) (by kernel_rfl) (by kernel_rfl) (by rfl) ?_
            simp only [List.filterMap_cons, List.filterMap_nil, List.getElem?_toArray, List.getElem?_cons_zero, List.getElem?_cons_succ, Option.map_some]
            repeat (refine wpQ_val (by rfl) ?_; intro K hK; go_big_quiet_op; go_big_quiet_on)
            refine wpQ_nil ?_
            refine ⟨fun f v w => RdInv w4 A n c m L f v w, by rfl, ?_, ?_, ?_⟩
            · exact ⟨(ext_refl w4).draw, fun h _ => absurd h (by decide), fun h => absurd h (by decide), fun h => absurd h (by decide), fun h => absurd h (by decide), fun h => absurd h (by decide)⟩
            · refine ⟨?_, ?_, ?_, ?_, ?_, trivial⟩
              · intro f v w hf hd hcl I K hK
                have n5 : f 5 = false := (by cases h : f 5 with | false => rfl | true => exact absurd ((hcl (5, [2]) (by simp) h 2 (by simp)).symm.trans hf) (by decide))
                have n6 : f 6 = false := (by cases h : f 6 with | false => rfl | true => exact absurd ((hcl (6, [5]) (by simp) h 5 (by simp)).symm.trans n5) (by decide))
                have n8 : f 8 = false := (by cases h : f 8 with | false => rfl | true => exact absurd ((hcl (8, [6, 7]) (by simp) h 6 (by simp)).symm.trans n6) (by decide))
                simp only [putAll]
                go_simp
                have hx := Ext.new (ext_refl w) (.cells #[] 45)
                refine hK _ _ rfl (fun _ h => h.then hx) ?_
                exact {
                  e := I.e.then hx
                  c2 := fun _ _ => own_new rfl rfl I.e.size (Nat.zero_le _)
                  c5 := fun h5 => absurd ((show f 5 = true from h5).symm.trans n5) (by decide)
                  c6 := fun h6 => absurd ((show f 6 = true from h6).symm.trans n6) (by decide)
                  c7 := fun h7 => by obtain ⟨g, e, hg, r⟩ := (I.c7 h7); exact ⟨g, e, hg, fun h => (r h).keep hx⟩
                  c8 := fun h8 => absurd ((show f 8 = true from h8).symm.trans n8) (by decide)
                }
              · intro f v w hf hd hcl I K hK
                have t2 : f 2 = true := hd 2 (by simp)
                have n6 : f 6 = false := (by cases h : f 6 with | false => rfl | true => exact absurd ((hcl (6, [5]) (by simp) h 5 (by simp)).symm.trans hf) (by decide))
                have n8 : f 8 = false := (by cases h : f 8 with | false => rfl | true => exact absurd ((hcl (8, [6, 7]) (by simp) h 6 (by simp)).symm.trans n6) (by decide))
                simp only [putAll, dstOf, List.getElem?_toArray, List.getElem?_cons_zero, List.getElem?_cons_succ, Option.bind_some]
                have O := I.c2 t2 hf
                simp only [Act.put, List.setIfInBounds_toArray, List.set_cons_zero, List.set_cons_succ]
                refine wp_app (.tmp 65) (.tmp 67) rowRo rfl _ 0 [] rfl O _ m (rws' L) rfl (Src.rd Tryz.underlying23 _ m d (rws' L) (by rw [rws_len, HLLM.out, Nat.mul_one]) (HBRz.out.keep I.e) (rws_one _) HZB.out) (by have := HM6.out; simp only [maxLen]; omega) (by have := HM6.out; omega) I.e.size ?_
                intro vn w' hown hgrow hat hbel
                refine hK _ _ rfl (fun _ h => Below.trans h hbel) ?_
                exact {
                  e := Below.trans I.e hbel
                  c2 := fun _ h5 => absurd (show true = false from h5) (by decide)
                  c5 := fun _ => by
                    rw [Nat.zero_add, List.nil_append] at hown
                    obtain ⟨B', d', e, _⟩ := Rd.owned hown
                    exact ⟨B', d', e, by rw [e] at hown; exact hown⟩
                  c6 := fun h6 => absurd ((show f 6 = true from h6).symm.trans n6) (by decide)
                  c7 := fun h7 => by obtain ⟨g, e, hg, r⟩ := (I.c7 h7); exact ⟨g, e, hg, fun h => Blk.grw (r h) hgrow (own_nblk O (r h) (by decide))⟩
                  c8 := fun h8 => absurd ((show f 8 = true from h8).symm.trans n8) (by decide)
                }
              · intro f v w hf hd hcl I K hK
                have t5 : f 5 = true := hd 5 (by simp)
                have t2 : f 2 = true := hcl (5, [2]) (by simp) t5 2 (by simp)
                have n8 : f 8 = false := (by cases h : f 8 with | false => rfl | true => exact absurd ((hcl (8, [6, 7]) (by simp) h 6 (by simp)).symm.trans hf) (by decide))
                simp only [putAll, dstOf, List.getElem?_toArray, List.getElem?_cons_zero, List.getElem?_cons_succ, Option.bind_some]
                obtain ⟨B', d', e5, _⟩ := I.c5 t5
                rw [e5]
                go_simp
                refine hK _ _ rfl (fun _ h => h) ?_
                exact {
                  e := I.e
                  c2 := fun _ h5 => absurd ((show f 5 = false from h5).symm.trans t5) (by decide)
                  c5 := fun h5 => (I.c5 h5)
                  c6 := fun _ => by show Value.agg #[.slice A n c, .slice B' m d'] = Value.agg #[.slice A n c, v 5]; rw [e5]
                  c7 := fun h7 => (I.c7 h7)
                  c8 := fun h8 => absurd ((show f 8 = true from h8).symm.trans n8) (by decide)
                }
              · intro f v w hf hd hcl I K hK
                have n8 : f 8 = false := (by cases h : f 8 with | false => rfl | true => exact absurd ((hcl (8, [6, 7]) (by simp) h 7 (by simp)).symm.trans hf) (by decide))
                simp only [putAll]
                go_simp
                have hx := Ext.new (ext_refl w) (.cells #[.slice none 0 0, .slice none 0 0] 25)
                refine hK _ _ rfl (fun _ h => h.then hx) ?_
                exact {
                  e := I.e.then hx
                  c2 := fun h2 h5 => own_ext (I.c2 h2 h5) hx
                  c5 := fun h5 => by obtain ⟨B', d', e, r⟩ := (I.c5 h5); exact ⟨B', d', e, own_ext r hx⟩
                  c6 := fun h6 => (I.c6 h6)
                  c7 := fun _ => ⟨_, rfl, I.e.size, fun _ => Blk.new _ _ _⟩
                  c8 := fun h8 => absurd ((show f 8 = true from h8).symm.trans n8) (by decide)
                }
              · intro f v w hf hd hcl I K hK
                have t6 : f 6 = true := hd 6 (by simp)
                have t7 : f 7 = true := hd 7 (by simp)
                have t5 : f 5 = true := hcl (6, [5]) (by simp) t6 5 (by simp)
                have t2 : f 2 = true := hcl (5, [2]) (by simp) t5 2 (by simp)
                simp only [putAll, dstOf, List.getElem?_toArray, List.getElem?_cons_zero, List.getElem?_cons_succ, Option.bind_some]
                obtain ⟨B', d', e5, r5⟩ := I.c5 t5
                obtain ⟨g, e7, hg, hb⟩ := I.c7 t7
                have BG := hb hf
                have q0 := BG.cell 0
                have q1 := BG.cell 1
                have f0 := BG.frozen 0
                have f1 := BG.frozen 1
                have lg := BG.lt
                rw [I.c6 t6, e5, e7]
                go_simp
                have hx2 := Ext.put (Ext.put I.e (p := ⟨g, 0, none⟩) hg (.slice A n c)) (p := ⟨g, 1, none⟩) hg (.slice B' m d')
                refine hK _ _ rfl (fun _ h => Ext.put (Ext.put h (p := ⟨g, 0, none⟩) hg _) (p := ⟨g, 1, none⟩) hg _) ?_
                have BF := ((BG.set 0 (.slice A n c)).set 1 (.slice B' m d')).cast (cs' := #[.slice A n c, .slice B' m d']) (by simp)
                have o1 := own_put r5 (p := ⟨g, 0, none⟩) (own_nblk r5 BG (by decide)) (.slice A n c)
                have o2 := own_put o1 (p := ⟨g, 1, none⟩) (own_nblk r5 BG (by decide)) (.slice B' m d')
                exact {
                  e := hx2
                  c2 := fun _ h5 => absurd ((show f 5 = false from h5).symm.trans t5) (by decide)
                  c5 := fun _ => ⟨B', d', e5, o2⟩
                  c6 := fun h6 => (I.c6 h6)
                  c7 := fun _ => ⟨g, e7, hg, fun h => absurd (show true = false from h) (by decide)⟩
                  c8 := fun _ => ⟨g, B', d', e7, e5, hg, BF⟩
                }
            · intro f v w' hall I
              obtain ⟨g, B', d', e7, e5, hg, BG⟩ := I.c8 (hall 8 (by simp))
              obtain ⟨B2, d2, e52, O5⟩ := I.c5 (hall 5 (by simp))
              have e6 := I.c6 (hall 6 (by simp))
              obtain ⟨rfl, rfl⟩ : B' = B2 ∧ d' = d2 := by have := e5.symm.trans e52; simpa using this
              have XE := I.e
              simp only [List.map_cons, List.map_nil, putAll, dstOf, List.getElem?_toArray, List.getElem?_cons_zero, List.getElem?_cons_succ, Option.bind_some]
              rw [e6, e7, e5]
              simp only [Act.put, List.setIfInBounds_toArray, List.set_cons_zero, List.set_cons_succ]
              rcases O5.2 with ⟨_, h0⟩ | ⟨gb, cap, cur, e8, hbg, hgc, _⟩
              · exact absurd h0 (by have := HAM.out; omega)
              simp only [Value.slice.injEq] at e8
              obtain ⟨rfl, _, rfl⟩ := e8
              have rb : ∃ v, w'.cell? ⟨gb, a, none⟩ = some v := by
                obtain ⟨b9, o9, e9, _, c9⟩ := (own_rd O5).1.rows a (by rw [HLLM.out]; exact HAM.out)
                injection e9 with e9
                injection e9 with e91 e92
                subst e91 e92
                have := c9 a (by rw [HLLM.out]; exact HAM.out)
                rw [Nat.zero_add] at this
                exact ⟨_, this⟩
              obtain ⟨vb, rb⟩ := rb
              have hcur : Blk w' gb 45 cur := hgc
              have fz := Blk.frozen hcur a
              have HCU := hid hcur
              have o1 := BG.cell 1
              have o0 := BG.cell 0
              have HBG := hid BG
              have X5 := hid (X4.out.then XE)
              have BR5 := hid (BR4.out.keep XE)
              have HL5 := hid (own_ext HO4.out XE)
              have HO5 := hid O5
              have HGN := hid (show g ≠ gb from fun h => by
                subst h
                have h1 : Blk w' g 45 cur := hgc
                have h2 := h1.symm.trans BG
                simp at h2)
              have HGB := hid (show w.heap.size ≤ gb ∧ w.heap.size ≤ g ∧ w4.heap.size ≤ gb ∧ w4.heap.size ≤ g from ⟨Nat.le_trans X4.out.size hbg, Nat.le_trans X4.out.size hg, hbg, hg⟩)
              clear hbg hg BG O5 XE e5 e52 e6 e7 hgc hcur
              go_upto_region 18 with fail
              refine wp_gen (fun wq => Ext w wq ∧ Blk wq g 25 #[.slice A n c, .slice (some ⟨gb, 0, none⟩) m d'] ∧ Blk wq (w.heap.size + 1) 25 #[.slice none 0 0, .slice none 0 0] ∧ wq.ownsRow w4.heap.size 45 1 (.slice (some ⟨gb, 0, none⟩) m d') m (rws' (L.set a ((Al, k, cl), lst))) ∧ wq.ownsRow w3.heap.size 42 3 (.slice Al k cl) k (cls lst)) ⟨Ext.put X5.out (p := ⟨gb, a, none⟩) HGB.out.1 _, HBG.out.far (p := ⟨gb, a, none⟩) HGN.out _, BR5.out.far (p := ⟨gb, a, none⟩) (by have := HGB.out; have := BR4.out.lt; simp only; omega) _, by rw [← rws_set]; exact own_set HO5.out rfl a _, own_put HL5.out (p := ⟨gb, a, none⟩) (own_nblk HL5.out HCU.out (by decide)) _⟩ ?_
              rintro wq ⟨y0, y1, y2, y3, y4⟩
              have XQ := hid y0
              have BO := hid y1
              have BR := hid y2
              have OQ := hid y3
              have OL := hid y4
              clear y0 y1 y2 y3 y4 rb fz o0 o1
              have o0 := BO.out.cell 0
              have o1 := BO.out.cell 1
              have q0 := BR.out.cell 0
              have q1 := BR.out.cell 1
              have f0 := BR.out.frozen 0
              have f1 := BR.out.frozen 1
              have BRl := hid (show w.heap.size + 1 < w3.heap.size ∧ w3.heap.size ≤ w4.heap.size from ⟨BR3.out.lt, HW4.out.size⟩)
              go_wp2
              have HBF := hid (((BR.out.set 0 (.slice A n c)).set 1 (.slice (some ⟨gb, 0, none⟩) m d')).cast (cs' := #[.slice A n c, .slice (some ⟨gb, 0, none⟩) m d']) (by simp))
              have XF := hid (Ext.put (Ext.put XQ.out (p := ⟨w.heap.size + 1, 0, none⟩) (by simp only; omega) (.slice A n c)) (p := ⟨w.heap.size + 1, 1, none⟩) (by simp only; omega) (.slice (some ⟨gb, 0, none⟩) m d'))
              refine bodyPost_ret (results_blk2 rfl _ _ (w.heap.size + 1) 25 _ _ rfl HBF.out Tryz.underlying25 rfl (by kernel_rfl)) rfl ?_
              have e1 : ∀ {base : Nat} {e : TypeId} {size : Nat} {u : Value} {q : Nat} {xs : List Value}, w3.heap.size ≤ base → wq.ownsRow base e size u q xs → ((wq.setCell ⟨w.heap.size + 1, 0, none⟩ (.slice A n c)).setCell ⟨w.heap.size + 1, 1, none⟩ (.slice (some ⟨gb, 0, none⟩) m d')).ownsRow base e size u q xs := fun hb h => own_past (own_past h (p := ⟨w.heap.size + 1, 0, none⟩) (Nat.lt_of_lt_of_le BRl.out.1 hb) _) (p := ⟨w.heap.size + 1, 1, none⟩) (Nat.lt_of_lt_of_le BRl.out.1 hb) _
              obtain ⟨rB, zB, cB⟩ := own_rd (e1 BRl.out.2 OQ.out)
              refine ⟨_, by rw [HV.out]; rfl, ?_, XF.out⟩
              rw [HV.out, Tb.res_ok, ← HLAW.out]
              refine ⟨A, c, some ⟨gb, 0, none⟩, d', L.set a ((Al, k, cl), lst), by simp only [List.length_set, ← HM.out, ← HNN.out], HA.out.keep XF.out, rB, by rw [List.map_set, HLM.out], fun x hx => ?_, HZ.out, (fun h => by cases h), HCC0.out⟩
              rcases List.mem_or_eq_of_mem_set hx with hx | rfl
              · exact (HOK.out x hx).keep XF.out
              · exact RwO.ok (base := w3.heap.size) (e1 (Nat.le_refl _) OL.out)
      · have HV := hid hE
        have HNE := hid hc0
        have e1 : ((E : Int) == 0) = false := beq_eq_false_iff_ne.2 (by omega)
        have e2 : ((E : Int) != 0) = true := by simp; omega
        clear hv hb hR h0 hpn hp hnl hcap hn hm h1 h2 hL hok hc hbn hix hneg hrt hng hmem hE h6 hlen hlim hak hnme hixe ha hak1 hEE hc0 hz hzb
        go_enter Tryz.func11, Tryz.ntmps11
        go_upto_region 1 with fail
        refine wp_gen (fun w' => Ext w w' ∧ Blk w' (w.heap.size) 25 #[.slice A n c, .slice B m d] ∧ Blk w' (w.heap.size + 1) 25 #[.slice none 0 0, .slice none 0 0]) ⟨(((ext_refl w)).new _).new _, ((Blk.new _ _ _)).alloc _, (blk_at _ _ (by simp))⟩ ?_
        rintro wz ⟨x0, x1, x2⟩
        have X : Hid (Ext w wz) := hid x0
        have BT := hid x1
        have BR := hid x2
        clear x0 x1 x2
        have kBT0 := BT.out.cell 0
        have kBT1 := BT.out.cell 1
        go_wp2_with fail
        refine Calls.mono (HTC.out _ X.out) ?_
        rintro e w0 ⟨rfl, hx⟩
        replace X := hid (X.out.then hx)
        replace BR := hid (BR.out.keep hx)
        replace BT := hid (BT.out.keep hx)
        clear kBT0 kBT1 hx
        have kBT0 := BT.out.cell 0
        have kBT1 := BT.out.cell 1
        go_wp2_with fail
        refine Calls.mono (HAT.out _ X.out) ?_
        rintro e w1 ⟨rfl, hx⟩
        replace X := hid (X.out.then hx)
        replace BR := hid (BR.out.keep hx)
        replace BT := hid (BT.out.keep hx)
        clear kBT0 kBT1 hx
        have kBT0 := BT.out.cell 0
        have kBT1 := BT.out.cell 1
        go_wp2_with fail
        refine Calls.mono (HKO.out _ X.out) ?_
        rintro e w2 ⟨vk, rfl, ok, hx⟩
        obtain ⟨K, kc, rfl, rk, _⟩ := Rd.owned ok
        have RK := hid rk
        replace X := hid (X.out.then hx)
        replace BR := hid (BR.out.keep hx)
        replace BT := hid (BT.out.keep hx)
        clear kBT0 kBT1 hx ok rk
        go_wp2_with fail
        refine Calls.mono (HCC.out _ _ _ X.out RK.out) ?_
        rintro e w3 ⟨rfl, hx⟩
        replace X := hid (X.out.then hx)
        replace BR := hid (BR.out.keep hx)
        replace BT := hid (BT.out.keep hx)
        clear hx
        have q0 := BR.out.cell 0
        have q1 := BR.out.cell 1
        have f0 := BR.out.frozen 0
        have f1 := BR.out.frozen 1
        have ql := BR.out.lt
        go_wp2
        have HBF := hid (((BR.out.set 0 (.slice none 0 0)).set 1 (.slice none 0 0)).cast (cs' := #[.slice none 0 0, .slice none 0 0]) (by simp))
        have XF := hid (Ext.put (Ext.put X.out (p := ⟨w.heap.size + 1, 0, none⟩) (by simp only; omega) (.slice none 0 0)) (p := ⟨w.heap.size + 1, 1, none⟩) (by simp only; omega) (.slice none 0 0))
        refine bodyPost_ret (results_blk2 rfl _ _ (w.heap.size + 1) 25 _ _ rfl HBF.out Tryz.underlying25 rfl (by kernel_rfl)) rfl ?_
        exact ⟨_, by rw [HV.out]; rfl, by rw [HV.out, Tb.res_no HNE.out]; exact tb0_V _, XF.out⟩
  · obtain ⟨C, hC⟩ : ∃ C, C = Tb.tbck t := ⟨_, rfl⟩
    rw [← hC] at HTC
    have HV := hid (hR.trans ((Tb.redE_bad h0).trans hC.symm))
    rw [← hC] at h0
    have HNE := hid h0
    have e1 : ((C : Int) == 0) = false := beq_eq_false_iff_ne.2 (by omega)
    have e2 : ((C : Int) != 0) = true := by simp; omega
    clear hv hb hR h0 hpn hp hnl hcap hn hm h1 h2 hL hok hc hbn hix hC
    go_enter Tryz.func11, Tryz.ntmps11
    go_upto_region 1 with fail
    refine wp_gen (fun w' => Ext w w' ∧ Blk w' (w.heap.size) 25 #[.slice A n c, .slice B m d] ∧ Blk w' (w.heap.size + 1) 25 #[.slice none 0 0, .slice none 0 0]) ⟨(((ext_refl w)).new _).new _, ((Blk.new _ _ _)).alloc _, (blk_at _ _ (by simp))⟩ ?_
    rintro wz ⟨x0, x1, x2⟩
    have X : Hid (Ext w wz) := hid x0
    have BT := hid x1
    have BR := hid x2
    clear x0 x1 x2
    have kBT0 := BT.out.cell 0
    have kBT1 := BT.out.cell 1
    go_wp2_with fail
    refine Calls.mono (HTC.out _ X.out) ?_
    rintro e w0 ⟨rfl, hx⟩
    replace X := hid (X.out.then hx)
    replace BR := hid (BR.out.keep hx)
    replace BT := hid (BT.out.keep hx)
    clear kBT0 kBT1 hx
    have kBT0 := BT.out.cell 0
    have kBT1 := BT.out.cell 1
    go_wp2_with fail
    refine Calls.mono (HAT.out _ X.out) ?_
    rintro e w1 ⟨rfl, hx⟩
    replace X := hid (X.out.then hx)
    replace BR := hid (BR.out.keep hx)
    replace BT := hid (BT.out.keep hx)
    clear kBT0 kBT1 hx
    have q0 := BR.out.cell 0
    have q1 := BR.out.cell 1
    have f0 := BR.out.frozen 0
    have f1 := BR.out.frozen 1
    have ql := BR.out.lt
    go_wp2
    have HBF := hid (((BR.out.set 0 (.slice none 0 0)).set 1 (.slice none 0 0)).cast (cs' := #[.slice none 0 0, .slice none 0 0]) (by simp))
    have XF := hid (Ext.put (Ext.put X.out (p := ⟨w.heap.size + 1, 0, none⟩) (by simp only; omega) (.slice none 0 0)) (p := ⟨w.heap.size + 1, 1, none⟩) (by simp only; omega) (.slice none 0 0))
    refine bodyPost_ret (results_blk2 rfl _ _ (w.heap.size + 1) 25 _ _ rfl HBF.out Tryz.underlying25 rfl (by kernel_rfl)) rfl ?_
    exact ⟨_, by rw [HV.out]; rfl, by rw [HV.out, Tb.res_no HNE.out]; exact tb0_V _, XF.out⟩
end Go.Proofs.YtolhifnlahllnaaGreatDoor
