/- Tables, the document: ProjectOf, DropOf: walks (printed by gen_tze.py). -/
import Derived.Test.YtolhifnlahllnaaGreatDoorTzc
import Derived.Test.YtolhifnlahllnaaGreatDoorTkq
namespace Hy.Tb
open Go
theorem proj_T (t : Tab) (ns : List ByteArray) : projT t ns = (selC t ns, selD t ns) := rfl
theorem projE_bad {t : Tab} {ns : List ByteArray} (h : tbck t ≠ 0) : projE t ns = tbck t := by unfold projE; rw [if_pos h]
theorem projE_prj {t : Tab} {ns : List ByteArray} (h : tbck t = 0) : projE t ns = prj t.1 [] ns := by unfold projE; rw [if_neg (by simp [h])]
theorem selC_len (t : Tab) (ns : List ByteArray) : (selC t ns).length = ns.length := List.length_map _
theorem selD_len (t : Tab) (ns : List ByteArray) : (selD t ns).length = ns.length := List.length_map _
theorem wo_zip (s : ByteArray) (c : List Ent) : ∀ {α : Type} (d : List α), c.length = d.length → (wod s c d).length = (wo s c).length := by
  induction c with
  | nil => intro α d _; simp [wo, wod]
  | cons x r ih =>
    intro α d hl
    cases d with
    | nil => simp at hl
    | cons y d =>
      rw [wod_cons, wo_cons]
      split
      · exact ih d (by simpa using hl)
      · rw [List.length_cons, List.length_cons, ih d (by simpa using hl)]
end Hy.Tb
namespace Go.Proofs.YtolhifnlahllnaaGreatDoor
open Go.RowKit Hy
theorem tb_parts {w : World} {A B : Option Addr} {n c m d : Nat} {t : Tb.Tab} (h : TbV w (.agg #[.slice A n c, .slice B m d]) t) : ∃ L, n = t.1.length ∧ m = t.2.length ∧ Rd w A (ens t.1) ∧ Rd w B (rws' L) ∧ L.map (·.2) = t.2 ∧ (∀ x ∈ L, RwOk w x) ∧ t.1.length ≤ c := by
  obtain ⟨A', c', B', d', L, e, q1, q2, q3, q4, _, _, q7⟩ := h
  simp only [Value.agg.injEq, Array.mk.injEq, List.cons.injEq, Value.slice.injEq] at e
  obtain ⟨⟨rfl, rfl, rfl⟩, ⟨rfl, rfl, rfl⟩, _⟩ := e
  exact ⟨L, rfl, rfl, q1, q2, q3, q4, q7⟩
set_option maxHeartbeats 6400000 in
set_option maxRecDepth 100000 in
/-- the document's columns of names -/
theorem projOf_any (t : Tb.Tab) (l : List (List UInt8)) (N : Option Addr) (nn nc : Nat) (v : Value) (w : World) (hv : TbV w v t) (hb : TbB t) (hl : l.length = nn) (hr : Rd w N (txs l)) (hnl : nn ≤ 140737488355328) :
    Calls Tryz.prog 13 #[v, .slice N nn nc] w fun e w' => ∃ v', e = .returned (.tuple #[v', .int .i64 ((Tb.projE t (Tb.bas l) : Nat) : Int)]) ∧ TbV w' v' (Tb.res (Tb.projE t (Tb.bas l)) (Tb.projT t (Tb.bas l))) ∧ Ext w w' := by
  have HV0 := hid hv
  have HB := hid hb
  obtain ⟨A, n, c, B, m, d, rfl⟩ := hv.shape
  have HTC := hid (fun wx (hx : Ext w wx) => tabCheck_any t _ wx (HV0.out.keep hx) HB.out)
  obtain ⟨R, hR⟩ : ∃ R, R = Tb.projE t (Tb.bas l) := ⟨_, rfl⟩
  rw [← hR]
  by_cases h0 : Tb.tbck t = 0
  · have hrt := (Tb.right_iff t).1 h0
    rw [h0] at HTC
    have hE := hR.trans (Tb.projE_prj (ns := Tb.bas l) h0)
    obtain ⟨L, hn, hm, h1, h2, hL, hok, hc⟩ := tb_parts hv
    have h6 := hrt.six
    have hlen := hrt.len
    have hbs := hb.s
    have HAT := hid (fun (s : ByteArray) wy (hx : Ext w wy) => show Calls Tryz.prog 31 #[.slice A n c, .string s] wy fun e w' => e = .returned (.int .i64 (Tb.ixc t.1 s 0)) ∧ Ext wy w' from Calls.mono (colAt_any t.1 s A n c wy hn.symm (h1.keep hx) (by omega)) (by rintro e w' ⟨h, rfl⟩; exact ⟨h, ext_refl _⟩))
    have HP0 := hid (show R = Tb.prj t.1 ((Tb.bas l).take 0) ((Tb.bas l).drop 0) from hE)
    have HNN := hid hn; have HM := hid hm; have HR := hid hrt; have HLN := hid hl; have HRD := hid hr
    have HA := hid h1; have HBR := hid h2; have HLM := hid hL; have HOK := hid hok
    have HNL := hid hnl
    have hnnI : (nn : Int) ≤ 140737488355328 := by omega
    clear hv hb hR hE h0 hrt hl hr hnl hn hm h1 h2 hL hok hc h6 hlen hbs
    go_enter Tryz.func13, Tryz.ntmps13
    go_upto_region 1 with fail
    refine wp_gen (fun w' => Ext w w' ∧ Blk w' (w.heap.size) 25 #[.slice A n c, .slice B m d] ∧ Blk w' (w.heap.size + 1) 25 #[.slice none 0 0, .slice none 0 0]) ⟨(((ext_refl w)).new _).new _, ((Blk.new _ _ _)).alloc _, (blk_at _ _ (by simp))⟩ ?_
    rintro wz ⟨x0, x1, x2⟩
    have X : Hid (Ext w wz) := hid x0
    have BT := hid x1
    have BR := hid x2
    clear x0 x1 x2
    have kBT0 := BT.out.cell 0
    have kBT1 := BT.out.cell 1
    go_wp2_with fail
    refine Calls.mono (HTC.out _ X.out) ?_
    rintro e w1 ⟨rfl, hx⟩
    replace X := hid (X.out.then hx)
    replace BR := hid (BR.out.keep hx)
    replace BT := hid (BT.out.keep hx)
    clear kBT0 kBT1 hx
    go_wp2
    have F0 := hid (Blk.new w1 25 #[.slice none 0 0, .slice none 0 0])
    have E0 := hid (Ext.new (ext_refl w1) (.cells #[.slice none 0 0, .slice none 0 0] 25))
    go_loopw [8, 9] (fun ii _ wr => ∃ k : Nat, k ≤ nn ∧ ii = .int .i64 k ∧ ∃ A' c' B' d' L', Hid (Blk wr w1.heap.size 25 #[.slice A' k c', .slice B' k d']) ∧ Hid (wr.ownsRow w1.heap.size 39 2 (.slice A' k c') k (ens (Tb.selC t ((Tb.bas l).take k)))) ∧ Hid (wr.ownsRow w1.heap.size 45 1 (.slice B' k d') k (rws' L')) ∧ Hid (L'.map (·.2) = Tb.selD t ((Tb.bas l).take k)) ∧ Hid (∀ x ∈ L', x ∈ L) ∧ Hid (Ext w1 wr) ∧ Hid (R = Tb.prj t.1 ((Tb.bas l).take k) ((Tb.bas l).drop k)) ∧ Hid (((Tb.bas l).take k).Nodup ∧ ∀ n ∈ (Tb.bas l).take k, n ∈ t.1.map (·.1))) (fun ii _ _ => nn - (intOf ii).toNat)
    case atStart => exact ⟨0, Nat.zero_le _, rfl, none, 0, none, 0, [], F0, hid (World.ownsRow_nil _ _ _ _), hid (World.ownsRow_nil _ _ _ _), hid rfl, hid (fun x hx => absurd hx List.not_mem_nil), E0, HP0, hid ⟨List.nodup_nil, fun n hn => absurd hn List.not_mem_nil⟩⟩
    case round =>
      obtain ⟨k, hk, rfl, A', c', B', d', L', HF, Q1, Q2, HL', HR', HX, HI, HND⟩ := hrel
      by_cases hlt : k < nn
      · have hkl : k < l.length := by rw [HLN.out]; exact hlt
        have hkb : k < (Tb.bas l).length := by rw [Tb.bas_len]; exact hkl
        have hk6 : k ≤ 6 := by
          have := Tb.few HR.out HND.out.1 HND.out.2
          rw [List.length_take, Tb.bas_len, HLN.out] at this
          omega
        obtain ⟨b1, o1, e1, l1, c1⟩ := HRD.out.texts k hkl
        have XW := hid (X.out.then HX.out)
        have s0 := ext_cell XW.out (c1 k hkl)
        rw [← Tb.bas_get l k hkl] at s0
        have hI := HI.out
        rw [Tb.prj_here hkb] at hI
        have HTK := hid (List.take_succ_eq_append_getElem hkb)
        have HMEM := hid (Tb.at_name (n := (Tb.bas l)[k]) HR.out)
        have HIX := hid (Tb.ixc_neg t.1 (Tb.bas l)[k] 0)
        have hltI : (k : Int) < (nn : Int) := by omega
        have HK6 := hid hk6
        have HATn := hid (fun wy (hx : Ext w wy) => HAT.out (Tb.bas l)[k] wy hx)
        have HSX := hid (Tb.selC_ix HR.out ((Tb.bas l).take k) (Tb.bas l)[k] HND.out.2)
        have HAO := hid (fun wy (hx : Ext wr wy) => show Calls Tryz.prog 31 #[.slice A' k c', .string (Tb.bas l)[k]] wy fun e w' => e = .returned (.int .i64 (Tb.ixc (Tb.selC t ((Tb.bas l).take k)) (Tb.bas l)[k] 0)) ∧ Ext wy w' from Calls.mono (colAt_any (Tb.selC t ((Tb.bas l).take k)) (Tb.bas l)[k] A' k c' wy (by rw [Tb.selC_len, List.length_take]; omega) ((own_rd Q1.out).1.keep hx) (by omega)) (by rintro e w' ⟨h, rfl⟩; exact ⟨h, ext_refl _⟩))
        obtain ⟨nm, hnm⟩ : ∃ nm, nm = (Tb.bas l)[k] := ⟨_, rfl⟩
        rw [← hnm] at hI HTK HMEM HIX HATn HAO HSX s0
        have he1 := hid e1
        clear c1 l1 hnm hk6 e1
        have e1 := he1.out
        subst e1
        have a0 := (BT.out.keep HX.out).cell 0
        have s0r := cell_regrown s0
        have a0r := cell_regrown a0
        by_cases hneg : Tb.ixc t.1 nm 0 < 0
        · rw [if_pos hneg] at hI
          have HV := hid hI
          have HNE := hid (show (5 : Nat) ≠ 0 by decide)
          obtain ⟨x, hx⟩ : ∃ x, x = Tb.ixc t.1 nm 0 := ⟨_, rfl⟩
          rw [← hx] at HATn hneg
          clear hI hx
          go_upto_region 6 with fail
          refine wp_region_walk [(0, true), (1, true), (2, true), (3, true), (4, true), (5, true), (6, false), (7, true)] (by kernel_rfl) (by kernel_rfl) (fun _ _ _ _ _ h => h) (by kernel_rfl) (by rfl) ?_
          simp only [List.filterMap_cons, List.filterMap_nil, List.getElem?_toArray, List.getElem?_cons_zero, List.getElem?_cons_succ, Option.map_some]
          repeat (refine wpM_val (by rfl) ?_; intro K hK; go_big_quiet_op; go_big_quiet_on)
          refine wpM_do (by rfl) ?_
          intro K hK
          go_simp
          refine Calls.mono (HATn.out _ (Ext.then XW.out (Ext.draw (ext_refl wr)))) ?_
          rintro e y1 ⟨rfl, hx⟩
          have Yy1 := hid (Ext.then (Ext.draw (ext_refl wr)) hx)
          refine hK _ _ Yy1.out ?_
          clear K hK hx
          repeat (refine wpM_val (by rfl) ?_; intro K hK; go_big_quiet_op; go_big_quiet_on)
          refine wpM_nil ?_
          replace X := hid (XW.out.then Yy1.out)
          replace BR := hid (BR.out.keep (HX.out.then Yy1.out))
          clear a0 s0 s0r a0r
          have q0 := BR.out.cell 0
          have q1 := BR.out.cell 1
          have f0 := BR.out.frozen 0
          have f1 := BR.out.frozen 1
          have ql := BR.out.lt
          go_wp2
          have HBF := hid (((BR.out.set 0 (.slice none 0 0)).set 1 (.slice none 0 0)).cast (cs' := #[.slice none 0 0, .slice none 0 0]) (by simp))
          have XF := hid (Ext.put (Ext.put X.out (p := ⟨w.heap.size + 1, 0, none⟩) (by simp only; omega) (.slice none 0 0)) (p := ⟨w.heap.size + 1, 1, none⟩) (by simp only; omega) (.slice none 0 0))
          refine bodyPost_ret (results_blk2 rfl _ _ (w.heap.size + 1) 25 _ _ rfl HBF.out Tryz.underlying25 rfl (by kernel_rfl)) rfl ?_
          exact ⟨_, by rw [HV.out]; rfl, by rw [HV.out, Tb.res_no HNE.out]; exact tb0_V _, XF.out⟩
        · rw [if_neg hneg] at hI
          have hmem : nm ∈ t.1.map (·.1) := Classical.byContradiction fun h => hneg (HIX.out.2 h)
          obtain ⟨hak, hnme, hix⟩ := HMEM.out hmem
          rw [hix] at HATn
          have HMM := hid hmem
          obtain ⟨ak, hakk⟩ : ∃ ak, ak = Tb.at0 t nm := ⟨_, rfl⟩
          have hak1 : ak < t.1.length := by rw [hakk]; exact hak
          rw [← hakk] at HATn
          have hakI : (0 : Int) ≤ (ak : Int) := by omega
          have HAK := hid hakk
          have HAK1 := hid hak1
          clear hneg hmem hnme hak hix hakk hak1
          obtain ⟨ox, hox⟩ : ∃ x, x = Tb.ixc (Tb.selC t ((Tb.bas l).take k)) nm 0 := ⟨_, rfl⟩
          rw [← hox] at HAO HSX
          clear hox
          by_cases htw : ∃ m ∈ (Tb.bas l).take k, m = nm
          · rw [if_pos htw] at hI
            have HV := hid hI
            have HNE := hid (show (6 : Nat) ≠ 0 by decide)
            have hge : (0 : Int) ≤ ox := by
              have := HSX.out
              by_cases h : ox < 0
              · exact absurd htw (this.1 h)
              · omega
            clear hI htw
            go_upto_region 6 with fail
            refine wp_region_walk [(0, true), (1, true), (2, true), (3, true), (4, true), (5, true), (6, false), (7, true)] (by kernel_rfl) (by kernel_rfl) (fun _ _ _ _ _ h => h) (by kernel_rfl) (by rfl) ?_
            simp only [List.filterMap_cons, List.filterMap_nil, List.getElem?_toArray, List.getElem?_cons_zero, List.getElem?_cons_succ, Option.map_some]
            repeat (refine wpM_val (by rfl) ?_; intro K hK; go_big_quiet_op; go_big_quiet_on)
            refine wpM_do (by rfl) ?_
            intro K hK
            go_simp
            refine Calls.mono (HATn.out _ (Ext.then XW.out (Ext.draw (ext_refl wr)))) ?_
            rintro e y1 ⟨rfl, hx⟩
            have Yy1 := hid (Ext.then (Ext.draw (ext_refl wr)) hx)
            refine hK _ _ Yy1.out ?_
            clear K hK hx
            repeat (refine wpM_val (by rfl) ?_; intro K hK; go_big_quiet_op; go_big_quiet_on)
            refine wpM_nil ?_
            have o0 := (HF.out.keep Yy1.out).cell 0
            replace s0 := ext_cell Yy1.out s0
            clear s0r a0 a0r
            have s0r := cell_regrown s0
            have o0r := cell_regrown o0
            go_upto_region 9 with fail
            refine wp_region_walk [(0, true), (1, true), (2, true), (3, true), (4, true), (5, true), (6, false), (7, true)] (by kernel_rfl) (by kernel_rfl) (fun _ _ _ _ _ h => h) (by kernel_rfl) (by rfl) ?_
            simp only [List.filterMap_cons, List.filterMap_nil, List.getElem?_toArray, List.getElem?_cons_zero, List.getElem?_cons_succ, Option.map_some]
            repeat (refine wpM_val (by rfl) ?_; intro K hK; go_big_quiet_op; go_big_quiet_on)
            refine wpM_do (by rfl) ?_
            intro K hK
            go_simp
            refine Calls.mono (HAO.out _ (Ext.then Yy1.out (Ext.draw (ext_refl y1)))) ?_
            rintro e y2 ⟨rfl, hx⟩
            have Yy2 := hid (Ext.then (Ext.draw (ext_refl y1)) hx)
            refine hK _ _ Yy2.out ?_
            clear K hK hx
            repeat (refine wpM_val (by rfl) ?_; intro K hK; go_big_quiet_op; go_big_quiet_on)
            refine wpM_nil ?_
            replace X := hid (XW.out.then (Yy1.out.then Yy2.out))
            replace BR := hid (BR.out.keep (HX.out.then (Yy1.out.then Yy2.out)))
            clear o0 s0 s0r o0r
            have q0 := BR.out.cell 0
            have q1 := BR.out.cell 1
            have f0 := BR.out.frozen 0
            have f1 := BR.out.frozen 1
            have ql := BR.out.lt
            go_wp2
            have HBF := hid (((BR.out.set 0 (.slice none 0 0)).set 1 (.slice none 0 0)).cast (cs' := #[.slice none 0 0, .slice none 0 0]) (by simp))
            have XF := hid (Ext.put (Ext.put X.out (p := ⟨w.heap.size + 1, 0, none⟩) (by simp only; omega) (.slice none 0 0)) (p := ⟨w.heap.size + 1, 1, none⟩) (by simp only; omega) (.slice none 0 0))
            refine bodyPost_ret (results_blk2 rfl _ _ (w.heap.size + 1) 25 _ _ rfl HBF.out Tryz.underlying25 rfl (by kernel_rfl)) rfl ?_
            exact ⟨_, by rw [HV.out]; rfl, by rw [HV.out, Tb.res_no HNE.out]; exact tb0_V _, XF.out⟩
          · rw [if_neg htw] at hI
            have HI2 := hid hI
            have HNT := hid htw
            have hge : ox < 0 := HSX.out.2 htw
            clear hI htw
            go_upto_region 6 with fail
            refine wp_region_walk [(0, true), (1, true), (2, true), (3, true), (4, true), (5, true), (6, false), (7, true)] (by kernel_rfl) (by kernel_rfl) (fun _ _ _ _ _ h => h) (by kernel_rfl) (by rfl) ?_
            simp only [List.filterMap_cons, List.filterMap_nil, List.getElem?_toArray, List.getElem?_cons_zero, List.getElem?_cons_succ, Option.map_some]
            repeat (refine wpM_val (by rfl) ?_; intro K hK; go_big_quiet_op; go_big_quiet_on)
            refine wpM_do (by rfl) ?_
            intro K hK
            go_simp
            refine Calls.mono (HATn.out _ (Ext.then XW.out (Ext.draw (ext_refl wr)))) ?_
            rintro e y1 ⟨rfl, hx⟩
            have Yy1 := hid (Ext.then (Ext.draw (ext_refl wr)) hx)
            refine hK _ _ Yy1.out ?_
            clear K hK hx
            repeat (refine wpM_val (by rfl) ?_; intro K hK; go_big_quiet_op; go_big_quiet_on)
            refine wpM_nil ?_
            have o0 := (HF.out.keep Yy1.out).cell 0
            replace s0 := ext_cell Yy1.out s0
            clear s0r a0 a0r
            have s0r := cell_regrown s0
            have o0r := cell_regrown o0
            go_upto_region 9 with fail
            refine wp_region_walk [(0, true), (1, true), (2, true), (3, true), (4, true), (5, true), (6, false), (7, true)] (by kernel_rfl) (by kernel_rfl) (fun _ _ _ _ _ h => h) (by kernel_rfl) (by rfl) ?_
            simp only [List.filterMap_cons, List.filterMap_nil, List.getElem?_toArray, List.getElem?_cons_zero, List.getElem?_cons_succ, Option.map_some]
            repeat (refine wpM_val (by rfl) ?_; intro K hK; go_big_quiet_op; go_big_quiet_on)
            refine wpM_do (by rfl) ?_
            intro K hK
            go_simp
            refine Calls.mono (HAO.out _ (Ext.then Yy1.out (Ext.draw (ext_refl y1)))) ?_
            rintro e y2 ⟨rfl, hx⟩
            have Yy2 := hid (Ext.then (Ext.draw (ext_refl y1)) hx)
            refine hK _ _ Yy2.out ?_
            clear K hK hx
            repeat (refine wpM_val (by rfl) ?_; intro K hK; go_big_quiet_op; go_big_quiet_on)
            refine wpM_nil ?_
            have D2 := hid (Yy1.out.then Yy2.out)
            have X2 := hid (HX.out.then D2.out)
            clear o0 s0 s0r o0r
            have F2 := hid (HF.out.keep D2.out)
            have S1 := hid (own_ext Q1.out D2.out)
            have S2 := hid (own_ext Q2.out D2.out)
            have XW2 := hid (X.out.then X2.out)
            obtain ⟨b2, o2, e2, l2, c2⟩ := HA.out.ents ak HAK1.out
            have HD := hid (⟨ext_cell XW2.out (c2 ak HAK1.out).1, ext_cell XW2.out (c2 ak HAK1.out).2⟩ : _ ∧ _)
            have hgd : t.1.getD ak (ByteArray.empty, 0) = t.1[ak]'(HAK1.out) := by rw [List.getD_eq_getElem?_getD, List.getElem?_eq_getElem HAK1.out]; rfl
            have HSC := hid (show Tb.selC t ((Tb.bas l).take (k + 1)) = Tb.selC t ((Tb.bas l).take k) ++ [t.1[ak]'(HAK1.out)] by rw [HTK.out, Tb.selC_snoc, ← HAK.out, hgd])
            have hLl : L.length = m := by rw [HM.out, ← HLM.out, List.length_map]
            have hakm : ak < m := by have h1 := HAK1.out; have h2 := HR.out.len; have h3 := HM.out; omega
            have hakL : ak < L.length := by omega
            obtain ⟨b5, o5, e5, l5, c5⟩ := HBR.out.rows ak hakL
            have HRC := hid (ext_cell X.out (c5 ak hakL))
            have hgd2 : t.2.getD ak [] = L[ak].2 := by rw [← HLM.out, List.getD_eq_getElem?_getD, List.getElem?_map, List.getElem?_eq_getElem hakL]; rfl
            have HSD := hid (show Tb.selD t ((Tb.bas l).take (k + 1)) = Tb.selD t ((Tb.bas l).take k) ++ [L[ak].2] by rw [HTK.out, Tb.selD_snoc, ← HAK.out, hgd2])
            have HRL := hid (List.getElem_mem hakL)
            generalize t.1[ak] = ce at *
            obtain ⟨cs, ck⟩ := ce
            simp only at HD
            generalize L[ak] = le at *
            obtain ⟨⟨la, ln, lq⟩, lz⟩ := le
            simp only at HRC
            have hakn : (ak : Int) < (n : Int) := by have h1 := HAK1.out; have h2 := HNN.out; omega
            have hakmI : (ak : Int) < (m : Int) := by omega
            have he2 := hid e2
            have he5 := hid e5
            clear c2 l2 c5 l5 e2 e5 hgd hgd2 hLl hakm hakL
            have e2 := he2.out
            have e5 := he5.out
            subst e2 e5
            have a0 := (BT.out.keep X2.out).cell 0
            have v0 := F2.out.cell 0
            have d0 := HD.out.1
            have d1 := HD.out.2
            have a0r := cell_regrown a0
            have v0r := cell_regrown v0
            have d0r := cell_regrown d0
            have d1r := cell_regrown d1
            go_upto_region 11 with fail
            refine wp_region_late [8, 10] [9] [(0, true), (1, true), (2, true), (3, true), (4, true), (5, true), (6, true), (7, false), (8, false), (9, true), (10, false)] (by kernel_rfl) (by kernel_rfl) (fun _ _ _ _ _ h => h) (by kernel_rfl) (by rfl) ?_
            simp only [List.filterMap_cons, List.filterMap_nil, List.getElem?_toArray, List.getElem?_cons_zero, List.getElem?_cons_succ, Option.map_some, List.contains_cons, List.contains_nil, Nat.reduceBEq, Bool.or_false, Bool.or_true]
            repeat ((first | refine wpL_val (by rfl) ?_ | refine wpL_pure (by rfl) ?_); intro K hK; go_big_quiet_op; go_big_quiet_on)
            refine wpL_do (by rfl) ?_
            intro K hK
            go_simp
            have J1 := hid (Ext.new (Ext.draw (ext_refl y2)) (.cells #[.string cs, .int .i64 ck] 39))
            refine hK _ _ J1.out ?_
            clear K hK
            refine wpL_late (by rfl) ?_
            intro K hK
            refine wp_app (.tmp 42) (.tmp 48) rowCo rfl _ k (ens (Tb.selC t ((Tb.bas l).take k))) rfl (own_ext S1.out J1.out) _ 1 (ens [(cs, ck)]) rfl (Src.rd Tryz.underlying22 _ 1 1 _ rfl (rd_lit rfl rfl) (ens_one _) (fun h => by cases h)) (by have := HK6.out; simp only [maxLen] at *; omega) (by have := HK6.out; omega) (Nat.le_trans X2.out.size J1.out.size) ?_
            intro v2 w8 hown8 hgrow hat hbel
            have E2 := own_ext S1.out J1.out
            have M1 := hid hown8
            have MB := hid (Blk.grw (F2.out.keep J1.out) hgrow (own_nblk E2 (F2.out.keep J1.out) (by decide)))
            have M2 := hid ((own_ext S2.out J1.out).kept hgrow (own_ne (own_ext S2.out J1.out) E2 (by decide)))
            have MX := hid (Below.trans (Ext.then X2.out J1.out) hbel)
            obtain ⟨A8, c8, rfl, _⟩ := Rd.owned hown8
            have q0 := MB.out.cell 0
            have f0 := MB.out.frozen 0
            clear hown8 hgrow hat hbel E2
            refine hK _ _ ?_
            clear K hK a0 a0r v0 v0r d0 d1 d0r d1r
            simp only [Act.put, List.setIfInBounds_toArray, List.set_cons_zero, List.set_cons_succ]
            repeat (refine wpL_pure (by rfl) ?_; intro K hK; go_big_quiet_op; go_big_quiet_on)
            refine wpL_late (by rfl) ?_
            intro K hK
            go_simp
            refine hK _ _ ?_
            clear K hK
            refine wpL_nil ?_
            have B9 := hid ((MB.out.set 0 (.slice A8 (k + 1) c8)).cast (cs' := #[.slice A8 (k + 1) c8, .slice B' k d']) (by simp))
            have V1 := hid (own_put M1.out (p := ⟨w1.heap.size, 0, none⟩) (own_nblk M1.out MB.out (by decide)) (.slice A8 (k + 1) c8))
            have V2 := hid (own_put M2.out (p := ⟨w1.heap.size, 0, none⟩) (own_nblk M2.out MB.out (by decide)) (.slice A8 (k + 1) c8))
            have VX := hid (Below.setCell MX.out (p := ⟨w1.heap.size, 0, none⟩) (Nat.le_refl _) (.slice A8 (k + 1) c8))
            clear q0 f0
            generalize w8.setCell ⟨w1.heap.size, 0, none⟩ (.slice A8 (k + 1) c8) = wt at *
            have a1 := (BT.out.keep VX.out).cell 1
            have v1 := B9.out.cell 1
            have r1 := ext_cell VX.out HRC.out
            have a1r := cell_regrown a1
            have v1r := cell_regrown v1
            have r1r := cell_regrown r1
            go_upto_region 12 with fail
            refine wp_region_late [8, 10] [9] [(0, true), (1, true), (2, true), (3, true), (4, true), (5, true), (6, true), (7, false), (8, false), (9, true), (10, false)] (by kernel_rfl) (by kernel_rfl) (fun _ _ _ _ _ h => h) (by kernel_rfl) (by rfl) ?_
            simp only [List.filterMap_cons, List.filterMap_nil, List.getElem?_toArray, List.getElem?_cons_zero, List.getElem?_cons_succ, Option.map_some, List.contains_cons, List.contains_nil, Nat.reduceBEq, Bool.or_false, Bool.or_true]
            repeat ((first | refine wpL_val (by rfl) ?_ | refine wpL_pure (by rfl) ?_); intro K hK; go_big_quiet_op; go_big_quiet_on)
            refine wpL_do (by rfl) ?_
            intro K hK
            go_simp
            have J2 := hid (Ext.new (Ext.draw (ext_refl wt)) (.cells #[.slice la ln lq] 45))
            refine hK _ _ J2.out ?_
            clear K hK
            refine wpL_late (by rfl) ?_
            intro K hK
            refine wp_app (.tmp 52) (.tmp 58) rowRo rfl _ k (rws' L') rfl (own_ext V2.out J2.out) _ 1 (rws' [((la, ln, lq), lz)]) rfl (Src.rd Tryz.underlying23 _ 1 1 _ rfl (rd_lit rfl rfl) (rws_one _) (fun h => by cases h)) (by have := HK6.out; simp only [maxLen] at *; omega) (by have := HK6.out; omega) (Nat.le_trans VX.out.size J2.out.size) ?_
            intro v2 w7 hown8 hgrow hat hbel
            have E2 := own_ext V2.out J2.out
            have K2 := hid hown8
            have KB := hid (Blk.grw (B9.out.keep J2.out) hgrow (own_nblk E2 (B9.out.keep J2.out) (by decide)))
            have K1 := hid ((own_ext V1.out J2.out).kept hgrow (own_ne (own_ext V1.out J2.out) E2 (by decide)))
            have KX := hid (Below.trans (Ext.then VX.out J2.out) hbel)
            obtain ⟨B8, d8, rfl, _⟩ := Rd.owned hown8
            have q1 := KB.out.cell 1
            have f1 := KB.out.frozen 1
            clear hown8 hgrow hat hbel E2
            refine hK _ _ ?_
            clear K hK a1 a1r v1 v1r r1 r1r
            simp only [Act.put, List.setIfInBounds_toArray, List.set_cons_zero, List.set_cons_succ]
            repeat (refine wpL_pure (by rfl) ?_; intro K hK; go_big_quiet_op; go_big_quiet_on)
            refine wpL_late (by rfl) ?_
            intro K hK
            go_simp
            refine hK _ _ ?_
            clear K hK
            refine wpL_nil ?_
            go_wp2
            go_roundw
            case rel =>
              refine ⟨k + 1, by omega, by go_num, A8, c8, B8, d8, L' ++ [((la, ln, lq), lz)], hid ((KB.out.set 1 (.slice B8 (k + 1) d8)).cast (by simp)), hid ?_, hid ?_, hid ?_, hid ?_, hid ?_, HI2, hid ?_⟩
              · rw [HSC.out, ens_app]; exact own_put K1.out (p := ⟨w1.heap.size, 1, none⟩) (own_nblk K1.out KB.out (by decide)) _
              · rw [rws_app]; exact own_put K2.out (p := ⟨w1.heap.size, 1, none⟩) (own_nblk K2.out KB.out (by decide)) _
              · rw [HSD.out, List.map_append, HL'.out]; rfl
              · intro x hx
                rcases List.mem_append.1 hx with hx | hx
                · exact HR'.out x hx
                · simp only [List.mem_cons, List.not_mem_nil, or_false] at hx
                  rw [hx]; exact HRL.out
              · exact Below.setCell KX.out (p := ⟨w1.heap.size, 1, none⟩) (Nat.le_refl _) _
              · rw [HTK.out]
                refine ⟨List.nodup_append.2 ⟨HND.out.1, by simp, fun a ha b hb e => ?_⟩, fun x hx => ?_⟩
                · simp only [List.mem_cons, List.not_mem_nil, or_false] at hb
                  exact HNT.out ⟨a, ha, e.trans hb⟩
                · rcases List.mem_append.1 hx with hx | hx
                  · exact HND.out.2 x hx
                  · simp only [List.mem_cons, List.not_mem_nil, or_false] at hx
                    rw [hx]; exact HMM.out
            case measure => simp [intOf] <;> omega
      · obtain rfl : k = nn := by omega
        have hfull : (Tb.bas l).take k = Tb.bas l := List.take_of_length_le (by rw [Tb.bas_len, HLN.out]; exact Nat.le_refl _)
        have HV := hid (show R = 0 by rw [HI.out, hfull, List.drop_of_length_le (by rw [Tb.bas_len, HLN.out]; exact Nat.le_refl _)]; rfl)
        rw [hfull] at Q1 HL'
        have HBL := hid (show (Tb.bas l).length = k from (Tb.bas_len l).trans HLN.out)
        clear hfull
        have o0 := HF.out.cell 0
        have o1 := HF.out.cell 1
        have q0 := (BR.out.keep HX.out).cell 0
        have q1 := (BR.out.keep HX.out).cell 1
        have f0 := (BR.out.keep HX.out).frozen 0
        have f1 := (BR.out.keep HX.out).frozen 1
        have BRl := hid BR.out.lt
        have BR2 := hid (BR.out.keep HX.out)
        have XW := hid (X.out.then HX.out)
        clear hlt
        go_wp2
        have HBF := hid (((BR2.out.set 0 (.slice A' k c')).set 1 (.slice B' k d')).cast (cs' := #[.slice A' k c', .slice B' k d']) (by simp))
        have XF := hid (Ext.put (Ext.put XW.out (p := ⟨w.heap.size + 1, 0, none⟩) (by simp only; omega) (.slice A' k c')) (p := ⟨w.heap.size + 1, 1, none⟩) (by simp only; omega) (.slice B' k d'))
        refine bodyPost_ret (results_blk2 rfl _ _ (w.heap.size + 1) 25 _ _ rfl HBF.out Tryz.underlying25 rfl (by kernel_rfl)) rfl ?_
        have e1 : ∀ {e : TypeId} {size : Nat} {u : Value} {q : Nat} {xs : List Value}, wr.ownsRow w1.heap.size e size u q xs → ((wr.setCell ⟨w.heap.size + 1, 0, none⟩ (.slice A' k c')).setCell ⟨w.heap.size + 1, 1, none⟩ (.slice B' k d')).ownsRow w1.heap.size e size u q xs := fun h => own_past (own_past h (p := ⟨w.heap.size + 1, 0, none⟩) BRl.out _) (p := ⟨w.heap.size + 1, 1, none⟩) BRl.out _
        obtain ⟨rA, zA, cA⟩ := own_rd (e1 Q1.out)
        obtain ⟨rB, zB, cB⟩ := own_rd (e1 Q2.out)
        refine ⟨_, by rw [HV.out]; rfl, ?_, XF.out⟩
        rw [HV.out, Tb.res_ok]
        refine ⟨A', c', B', d', L', ?_, rA, rB, HL'.out, fun x hx => (HOK.out x (HR'.out x hx)).keep XF.out, ?_, ?_, ?_⟩
        · rw [Tb.proj_T]; simp only [Tb.selC_len, Tb.selD_len, HBL.out]
        · intro h; rw [Tb.proj_T]; simp only [Tb.selC_len, HBL.out]; exact zA h
        · intro h; rw [Tb.proj_T]; simp only [Tb.selD_len, HBL.out]; exact zB h
        · rw [Tb.proj_T]; simp only [Tb.selC_len, HBL.out]; exact cA
  · obtain ⟨C, hC⟩ : ∃ C, C = Tb.tbck t := ⟨_, rfl⟩
    rw [← hC] at HTC
    have HV := hid (hR.trans ((Tb.projE_bad h0).trans hC.symm))
    rw [← hC] at h0
    have HNE := hid h0
    have e1 : ((C : Int) == 0) = false := beq_eq_false_iff_ne.2 (by omega)
    have e2 : ((C : Int) != 0) = true := by simp; omega
    have hnI : (nn : Int) ≤ 140737488355328 := by omega
    have K2 : ((0 : Int) < (nn : Int)) ∨ ((nn : Int) ≤ 0) := by omega
    clear hv hb hR hC h0 hl hr hnl
    rcases K2 with g1 | g1
    all_goals (
      go_enter Tryz.func13, Tryz.ntmps13
      go_upto_region 1 with fail
      refine wp_gen (fun w' => Ext w w' ∧ Blk w' (w.heap.size) 25 #[.slice A n c, .slice B m d] ∧ Blk w' (w.heap.size + 1) 25 #[.slice none 0 0, .slice none 0 0]) ⟨(((ext_refl w)).new _).new _, ((Blk.new _ _ _)).alloc _, (blk_at _ _ (by simp))⟩ ?_
      rintro wz ⟨x0, x1, x2⟩
      have X : Hid (Ext w wz) := hid x0
      have BT := hid x1
      have BR := hid x2
      clear x0 x1 x2
      have kBT0 := BT.out.cell 0
      have kBT1 := BT.out.cell 1
      go_wp2_with fail
      refine Calls.mono (HTC.out _ X.out) ?_
      rintro e w1 ⟨rfl, hx⟩
      replace X := hid (X.out.then hx)
      replace BR := hid (BR.out.keep hx)
      replace BT := hid (BT.out.keep hx)
      clear kBT0 kBT1 hx
      go_wp2
      go_loopw [8, 9] (fun ii _ wr => ii = .int .i64 0 ∧ wr = w1.alloc (.cells #[.slice none 0 0, .slice none 0 0] 25)) (fun _ _ _ => 0)
      case atStart => exact ⟨rfl, rfl⟩
      case round =>
        obtain ⟨rfl, rfl⟩ := hrel
        have FN := Blk.new w1 25 #[.slice none 0 0, .slice none 0 0]
        have XN := Ext.new (ext_refl w1) (.cells #[.slice none 0 0, .slice none 0 0] 25)
        have X := hid (X.out.then XN)
        have BR := hid (BR.out.keep XN)
        have o0 := FN.cell 0
        have o1 := FN.cell 1
        generalize w1.alloc (.cells #[.slice none 0 0, .slice none 0 0] 25) = wn at *
        have q0 := BR.out.cell 0
        have q1 := BR.out.cell 1
        have f0 := BR.out.frozen 0
        have f1 := BR.out.frozen 1
        have ql := BR.out.lt
        go_wp2
        have HBF := hid (((BR.out.set 0 (.slice none 0 0)).set 1 (.slice none 0 0)).cast (cs' := #[.slice none 0 0, .slice none 0 0]) (by simp))
        have XF := hid (Ext.put (Ext.put X.out (p := ⟨w.heap.size + 1, 0, none⟩) (by simp only; omega) (.slice none 0 0)) (p := ⟨w.heap.size + 1, 1, none⟩) (by simp only; omega) (.slice none 0 0))
        refine bodyPost_ret (results_blk2 rfl _ _ (w.heap.size + 1) 25 _ _ rfl HBF.out Tryz.underlying25 rfl (by kernel_rfl)) rfl ?_
        exact ⟨_, by rw [HV.out]; rfl, by rw [HV.out, Tb.res_no HNE.out]; exact tb0_V _, XF.out⟩)
end Go.Proofs.YtolhifnlahllnaaGreatDoor
