/- Tables, the document: AddOf: walk (printed by gen_tzj.py). -/
import Derived.Test.YtolhifnlahllnaaGreatDoorTzd
import Derived.Test.YtolhifnlahllnaaGreatDoorTze
import Derived.Test.YtolhifnlahllnaaGreatDoorGhx
namespace Go.Proofs.YtolhifnlahllnaaGreatDoor
open Go.RowKit Hy
theorem rd_blk {w : World} {g : Nat} {t : TypeId} {cs : Array Value} {l : List Value} (h : Blk w g t cs) (he : cs.toList = l) : Rd w (some ⟨g, 0, none⟩) l := fun _ => ⟨g, 0, rfl, h.lt, fun j u hu => by
  rw [Nat.zero_add, h.cell j]
  subst he
  simpa using hu⟩
structure AdInv (y0 W0 : World) (g3 b3 n m M : Nat) (l1 : List Ent) (L : List Rw) (cs : ByteArray) (ck : Int) (Al : Option Addr) (cl : Nat) (lst : List Cel) (f : Nat → Bool) (v : Nat → Value) (w : World) : Prop where
  e : f 15 = false → Ext y0 w
  c0 : f 0 = true → f 3 = false → w.ownsRow y0.heap.size 39 2 (v 0) 0 []
  c3 : f 3 = true → f 6 = false → w.ownsRow y0.heap.size 39 2 (v 3) n (ens l1)
  c5 : f 5 = true → f 6 = false → ∃ g5, v 5 = .slice (some ⟨g5, 0, none⟩) 1 1 ∧ Blk w g5 39 #[.string cs, .int .i64 ck] ∧ (f 0 = true → f 3 = false → (v 0).ownBlock ≠ some g5) ∧ (f 3 = true → (v 3).ownBlock ≠ some g5)
  c6 : f 6 = true → ∃ A1 q1, v 6 = .slice A1 (n + 1) q1 ∧ w.ownsRow y0.heap.size 39 2 (.slice A1 (n + 1) q1) (n + 1) (ens (l1 ++ [(cs, ck)]))
  c7 : f 7 = true → f 10 = false → w.ownsRow y0.heap.size 45 1 (v 7) 0 []
  c10 : f 10 = true → f 13 = false → w.ownsRow y0.heap.size 45 1 (v 10) m (rws' L)
  c12 : f 12 = true → f 13 = false → ∃ g5, v 12 = .slice (some ⟨g5, 0, none⟩) 1 1 ∧ Blk w g5 45 #[.slice Al M cl] ∧ (f 7 = true → f 10 = false → (v 7).ownBlock ≠ some g5) ∧ (f 10 = true → (v 10).ownBlock ≠ some g5)
  c13 : f 13 = true → ∃ B1 q1, v 13 = .slice B1 (m + 1) q1 ∧ w.ownsRow y0.heap.size 45 1 (.slice B1 (m + 1) q1) (m + 1) (rws' (L ++ [((Al, M, cl), lst)]))
  c14 : f 14 = true → v 14 = .agg #[v 6, v 13]
  c15 : f 15 = true → ∃ A1 q1 B1 q2, v 6 = .slice A1 (n + 1) q1 ∧ v 13 = .slice B1 (m + 1) q2 ∧ Blk w g3 25 #[.slice A1 (n + 1) q1, .slice B1 (m + 1) q2] ∧ Ext W0 w ∧ w.ownsRow b3 42 3 (.slice Al M cl) M (cls lst)
  c16 : f 16 = true → v 16 = .int .i64 0
set_option maxHeartbeats 12800000 in
set_option maxRecDepth 100000 in
/-- the document's table with a column more -/
theorem addOf_any (t : Tb.Tab) (cs : ByteArray) (ck xk : Int) (xn : Nat) (xs : ByteArray) (v : Value) (w : World) (hv : TbV w v t) (hb : TbB t) (hsz : cs.size ≤ 140737488355328) :
    Calls Tryz.prog 26 #[v, .agg #[.string cs, .int .i64 ck], .agg #[.int .i64 xk, .int .u64 (xn : Nat), .string xs]] w fun e w' => ∃ v', e = .returned (.tuple #[v', .int .i64 ((Tb.addE t (cs, ck) (xk, xn, xs) : Nat) : Int)]) ∧ TbV w' v' (Tb.res (Tb.addE t (cs, ck) (xk, xn, xs)) (Tb.addT t (cs, ck) (xk, xn, xs))) ∧ Ext w w' := by
  have HV0 := hid hv
  have HB := hid hb
  obtain ⟨A, n, c, B, m, d, rfl⟩ := hv.shape
  have HTC := hid (fun wx (hx : Ext w wx) => tabCheck_any t _ wx (HV0.out.keep hx) HB.out)
  have HRO := hid (fun wx (hx : Ext w wx) => rowsOf_any t _ wx (HV0.out.keep hx) HB.out)
  have HCE := hid (fun wx => show Calls Tryz.prog 71 #[.int .i64 ck, .agg #[.int .i64 xk, .int .u64 (xn : Nat), .string xs]] wx fun e w' => e = .returned (.int .i64 (Cel.alone ck (xk, xn, xs) : Nat)) ∧ Ext wx w' from cellCheck_any ck (xk, xn, xs) wx)
  obtain ⟨R, hR⟩ : ∃ R, R = Tb.addE t (cs, ck) (xk, xn, xs) := ⟨_, rfl⟩
  rw [← hR]
  by_cases h0 : Tb.tbck t = 0
  · rw [h0] at HTC
    obtain ⟨L, hn, hm, h1, h2, hL, hok, hc⟩ := tb_parts hv
    have hrt := (Tb.right_iff t).1 h0
    have h6 := hrt.six
    have hlen := hrt.len
    have hlim := hrt.lim
    have hza : A = none → n = 0 := by
      obtain ⟨A', c', B', d', L', e, _, _, _, _, q5, _, _⟩ := hv
      simp only [Value.agg.injEq, Array.mk.injEq, List.cons.injEq, Value.slice.injEq] at e
      rw [e.1.1, e.1.2.1]; exact q5
    have hzb : B = none → m = 0 := by
      obtain ⟨A', c', B', d', L', e, _, _, _, _, _, q6, _⟩ := hv
      simp only [Value.agg.injEq, Array.mk.injEq, List.cons.injEq, Value.slice.injEq] at e
      rw [e.2.1.1, e.2.1.2.1]; exact q6
    have HOC := hid (fun wx (hx : Ext w wx) => oneCol_any cs ck t.1 A n c wx hn.symm (h1.keep hx) (by omega) hsz)
    obtain ⟨E1, hE1⟩ : ∃ E, E = Tb.colck (cs, ck) t.1 := ⟨_, rfl⟩
    rw [← hE1] at HOC
    by_cases hc1 : E1 = 0
    · subst hc1
      by_cases hsix : t.1.length = 6
      · have HV := hid (hR.trans (Tb.addE_six h0 hE1.symm hsix))
        have HNE := hid (show (2 : Nat) ≠ 0 by decide)
        have gn : ((n : Int) == 6) = true := beq_iff_eq.2 (by omega)
        clear hv hb hR h0 hsz hn hm h1 h2 hL hok hc hrt h6 hlen hlim hza hzb hE1 hsix
        go_enter Tryz.func26, Tryz.ntmps26
        go_upto_region 1 with fail
        refine wp_gen (fun w' => Ext w w' ∧ Blk w' (w.heap.size) 25 #[.slice A n c, .slice B m d] ∧ Blk w' (w.heap.size + 1) 39 #[.string cs, .int .i64 ck] ∧ Blk w' (w.heap.size + 1 + 1) 42 #[.int .i64 xk, .int .u64 (xn : Nat), .string xs] ∧ Blk w' (w.heap.size + 1 + 1 + 1) 25 #[.slice none 0 0, .slice none 0 0]) ⟨(((((ext_refl w)).new _).new _).new _).new _, ((((Blk.new _ _ _)).alloc _).alloc _).alloc _, (((blk_at _ _ (by simp))).alloc _).alloc _, ((blk_at _ _ (by simp))).alloc _, (blk_at _ _ (by simp))⟩ ?_
        rintro wz ⟨x0, x1, x2, x3, x4⟩
        have X : Hid (Ext w wz) := hid x0
        have BT := hid x1
        have BC := hid x2
        have BX := hid x3
        have BR := hid x4
        clear x0 x1 x2 x3 x4
        have kBT0 := BT.out.cell 0
        have kBT1 := BT.out.cell 1
        go_wp2_with fail
        refine Calls.mono (HTC.out _ X.out) ?_
        rintro e w1 ⟨rfl, hx⟩
        replace X := hid (X.out.then hx)
        replace BR := hid (BR.out.keep hx)
        replace BT := hid (BT.out.keep hx)
        replace BC := hid (BC.out.keep hx)
        replace BX := hid (BX.out.keep hx)
        clear kBT0 kBT1 hx
        have kC0 := BC.out.cell 0
        have kC1 := BC.out.cell 1
        have kBT0 := BT.out.cell 0
        go_wp2_with fail
        refine Calls.mono (HOC.out _ X.out) ?_
        rintro e w2 ⟨rfl, hx⟩
        replace X := hid (X.out.then hx)
        replace BR := hid (BR.out.keep hx)
        replace BT := hid (BT.out.keep hx)
        replace BC := hid (BC.out.keep hx)
        replace BX := hid (BX.out.keep hx)
        clear kBT0 hx kC0 kC1
        have kBT0 := BT.out.cell 0
        have q0 := BR.out.cell 0
        have q1 := BR.out.cell 1
        have f0 := BR.out.frozen 0
        have f1 := BR.out.frozen 1
        have ql := BR.out.lt
        go_wp2
        have HBF := hid (((BR.out.set 0 (.slice none 0 0)).set 1 (.slice none 0 0)).cast (cs' := #[.slice none 0 0, .slice none 0 0]) (by simp))
        have XF := hid (Ext.put (Ext.put X.out (p := ⟨w.heap.size + 1 + 1 + 1, 0, none⟩) (by simp only; omega) (.slice none 0 0)) (p := ⟨w.heap.size + 1 + 1 + 1, 1, none⟩) (by simp only; omega) (.slice none 0 0))
        refine bodyPost_ret (results_blk2 rfl _ _ (w.heap.size + 1 + 1 + 1) 25 _ _ rfl HBF.out Tryz.underlying25 rfl (by kernel_rfl)) rfl ?_
        exact ⟨_, by rw [HV.out]; rfl, by rw [HV.out, Tb.res_no HNE.out]; exact tb0_V _, XF.out⟩
      · have hE := hR.trans (Tb.addE_cel (x := (xk, xn, xs)) h0 hE1.symm hsix)
        have gn : ((n : Int) == 6) = false := beq_eq_false_iff_ne.2 (by omega)
        obtain ⟨E2, hE2⟩ : ∃ E, E = Cel.alone ck (xk, xn, xs) := ⟨_, rfl⟩
        have hE' : R = E2 := by rw [hE2]; exact hE
        rw [← hE2] at HCE
        by_cases hc2 : E2 = 0
        · subst hc2
          have HV := hid hE'
          obtain ⟨M, hM⟩ : ∃ M, M = Tb.many t := ⟨_, rfl⟩
          rw [← hM] at HRO hlim
          have HMM := hid hM
          have hMI : (M : Int) ≤ 128 := by omega
          have HML := hid hlim
          have HN6 := hid (show n ≤ 6 by omega)
          have HM6 := hid (show m ≤ 6 by omega)
          have HNN := hid hn; have HM := hid hm
          have HA := hid h1; have HBRw := hid h2; have HLM := hid hL; have HOK := hid hok
          have HZA := hid hza; have HZB := hid hzb
          have HLLM := hid (show L.length = m by rw [hm, ← hL, List.length_map])
          have HL1 := hid (show t.1.length = n from hn.symm)
          clear hv hb hR h0 hsz hn hm h1 h2 hL hok hc hrt h6 hlen hlim hza hzb hE1 hE hE' hE2 hsix hM
          go_enter Tryz.func26, Tryz.ntmps26
          go_upto_region 1 with fail
          refine wp_gen (fun w' => Ext w w' ∧ Blk w' (w.heap.size) 25 #[.slice A n c, .slice B m d] ∧ Blk w' (w.heap.size + 1) 39 #[.string cs, .int .i64 ck] ∧ Blk w' (w.heap.size + 1 + 1) 42 #[.int .i64 xk, .int .u64 (xn : Nat), .string xs] ∧ Blk w' (w.heap.size + 1 + 1 + 1) 25 #[.slice none 0 0, .slice none 0 0]) ⟨(((((ext_refl w)).new _).new _).new _).new _, ((((Blk.new _ _ _)).alloc _).alloc _).alloc _, (((blk_at _ _ (by simp))).alloc _).alloc _, ((blk_at _ _ (by simp))).alloc _, (blk_at _ _ (by simp))⟩ ?_
          rintro wz ⟨x0, x1, x2, x3, x4⟩
          have X : Hid (Ext w wz) := hid x0
          have BT := hid x1
          have BC := hid x2
          have BX := hid x3
          have BR := hid x4
          clear x0 x1 x2 x3 x4
          have kBT0 := BT.out.cell 0
          have kBT1 := BT.out.cell 1
          go_wp2_with fail
          refine Calls.mono (HTC.out _ X.out) ?_
          rintro e w1 ⟨rfl, hx⟩
          replace X := hid (X.out.then hx)
          replace BR := hid (BR.out.keep hx)
          replace BT := hid (BT.out.keep hx)
          replace BC := hid (BC.out.keep hx)
          replace BX := hid (BX.out.keep hx)
          clear kBT0 kBT1 hx
          have kC0 := BC.out.cell 0
          have kC1 := BC.out.cell 1
          have kBT0 := BT.out.cell 0
          go_wp2_with fail
          refine Calls.mono (HOC.out _ X.out) ?_
          rintro e w2 ⟨rfl, hx⟩
          replace X := hid (X.out.then hx)
          replace BR := hid (BR.out.keep hx)
          replace BT := hid (BT.out.keep hx)
          replace BC := hid (BC.out.keep hx)
          replace BX := hid (BX.out.keep hx)
          clear kBT0 hx kC0 kC1
          have kBT0 := BT.out.cell 0
          have kC1 := BC.out.cell 1
          have kBX0 := BX.out.cell 0
          have kBX1 := BX.out.cell 1
          have kBX2 := BX.out.cell 2
          go_wp2_with fail
          refine Calls.mono (HCE.out _) ?_
          rintro e w3 ⟨rfl, hx⟩
          replace X := hid (X.out.then hx)
          replace BR := hid (BR.out.keep hx)
          replace BT := hid (BT.out.keep hx)
          replace BC := hid (BC.out.keep hx)
          replace BX := hid (BX.out.keep hx)
          clear kBX0 kBX1 kBX2 hx kBT0 kC1
          go_wp2
          go_loopw [9, 10] (fun o ii wr => ∃ k : Nat, k ≤ M ∧ ii = .int .i64 k ∧ Hid (wr.ownsRow w3.heap.size 42 3 o k (cls (List.replicate k (xk, xn, xs)))) ∧ Hid (Ext w3 wr)) (fun _ ii _ => M - (intOf ii).toNat)
          case atStart => exact ⟨0, Nat.zero_le _, rfl, hid (World.ownsRow_nil _ _ _ _), hid (ext_refl _)⟩
          case round =>
            obtain ⟨k, hk, rfl, HO, HX⟩ := hrel
            have XW := hid (X.out.then HX.out)
            have BT2 := hid (BT.out.keep HX.out)
            have BX2 := hid (BX.out.keep HX.out)
            by_cases hlt : k < M
            · have hlI : (k : Int) < (M : Int) := by omega
              have HLT := hid hlt
              have kBT0 := BT2.out.cell 0
              have kBT1 := BT2.out.cell 1
              go_wp2_with fail
              refine Calls.mono (HRO.out _ XW.out) ?_
              rintro e w4 ⟨rfl, hx⟩
              have Y4 := hid hx
              have BX4 := hid (BX2.out.keep hx)
              clear hx kBT0 kBT1 hlt
              have HRP := hid (show List.replicate (k + 1) (xk, xn, xs) = List.replicate k (xk, xn, xs) ++ [(xk, xn, xs)] from List.replicate_succ')
              obtain ⟨Z0, hZ0⟩ : ∃ Z, Z = List.replicate k (xk, xn, xs) := ⟨_, rfl⟩
              rw [← hZ0] at HO HRP
              clear hZ0
              have HO6 := hid (own_ext HO.out Y4.out)
              have HXn := hid (Ext.new (ext_refl w4) (.cells #[.int .i64 xk, .int .u64 (xn : Nat), .string xs] 42))
              have HOx := hid (own_ext HO6.out HXn.out)
              have HSW := hid (HX.out.then (Y4.out.then HXn.out)).size
              have x0 := BX4.out.cell 0
              have x1 := BX4.out.cell 1
              have x2 := BX4.out.cell 2
              go_wp2_with (at_builtin; go_loud (refine wpList_app rfl (.tmp 43) (.tmp 45) rowCe rfl _ k (cls Z0) rfl HOx.out _ 1 (cls [(xk, xn, xs)]) rfl (Src.rd Tryz.underlying45 _ 1 1 (cls [(xk, xn, xs)]) rfl (rd_lit (w := w4) (g := w4.heap.size) (C := #[.int .i64 xk, .int .u64 (xn : Nat), .string xs]) (e := 42) (fz := (0, 0)) (cs := cls [(xk, xn, xs)]) rfl rfl) (cls_one _) (fun h => by cases h)) (by have := HML.out; have := HLT.out; simp only [maxLen] at *; omega) (by have := HML.out; have := HLT.out; omega) HSW.out ?_; intro v' w9 hown9 hgrow hat hbel; have HO9 := hid hown9; have XB9 := hid (Below.trans (HX.out.then (Y4.out.then HXn.out)) hbel); clear hown9 hgrow hat hbel))
              go_roundw
              case rel => exact ⟨k + 1, by omega, by go_num, hid (by rw [HRP.out, cls_app]; exact HO9.out), XB9⟩
              case measure => simp [intOf]; omega
            · obtain rfl : k = M := by omega
              have kBT0 := BT2.out.cell 0
              have kBT1 := BT2.out.cell 1
              go_wp2_with fail
              refine Calls.mono (HRO.out _ XW.out) ?_
              rintro e w4 ⟨rfl, hx⟩
              have Z4 := hid (HX.out.then hx)
              have X4 := hid (XW.out.then hx)
              have HBR := hid (BR.out.keep Z4.out)
              have HO4 := hid (own_ext HO.out hx)
              have kT0 := (BT2.out.keep hx).cell 0
              have kT1 := (BT2.out.keep hx).cell 1
              have kC0 := (BC.out.keep Z4.out).cell 0
              have kC1 := (BC.out.keep Z4.out).cell 1
              clear hx kBT0 kBT1 hlt HO
              obtain ⟨Al, cl, rfl, _⟩ := Rd.owned HO4.out
              obtain ⟨lst, hlst⟩ : ∃ l, l = List.replicate k (xk, xn, xs) := ⟨_, rfl⟩
              rw [← hlst] at HO4
              have HLST := hid hlst
              clear hlst
              have HAz := hid (HA.out.keep X4.out)
              have HBz := hid (HBRw.out.keep X4.out)
              obtain ⟨l1, hl1⟩ : ∃ l, l = t.1 := ⟨_, rfl⟩
              rw [← hl1] at HAz HL1
              have HLL1 := hid hl1
              clear hl1
              obtain ⟨g3, hg3⟩ : ∃ g, g = w.heap.size + 1 + 1 + 1 := ⟨_, rfl⟩
              have HG3 := hid (show w.heap.size ≤ g3 by omega)
              have HGB := hid (show g3 < w3.heap.size by rw [hg3]; exact BR.out.lt)
              rw [← hg3] at HBR
              have HGE := hid hg3
              rw [← hg3]
              clear hg3
              go_upto_region 15 with fail
              have kT0r := cell_regrown kT0
              have kT1r := cell_regrown kT1
              have kC0r := cell_regrown kC0
              have kC1r := cell_regrown kC1
              refine wp_region_inv [15, 16] [1, 2, 4, 8, 9, 11] [(0, []), (3, [0]), (5, []), (6, [3, 5]), (7, []), (10, [6, 7]), (12, []), (13, [10, 12]), (14, [6, 13]), (15, [14]), (16, [15])] (by kernel_rfl) (by kernel_rfl) (fun _ _ _ _ _ h => h) (by kernel_rfl) (by kernel_rfl) (by rfl) ?_
              simp only [List.filterMap_cons, List.filterMap_nil, List.getElem?_toArray, List.getElem?_cons_zero, List.getElem?_cons_succ, Option.map_some]
              repeat (refine wpQ_val (by rfl) ?_; intro K hK; go_big_quiet_op; go_big_quiet_on)
              refine wpQ_nil ?_
              refine ⟨fun f v wx => AdInv w4 w g3 w3.heap.size n m k l1 L cs ck Al cl lst f v wx, by rfl, ?_, ?_, ?_⟩
              · exact ⟨fun _ => (ext_refl w4).draw, fun h _ => absurd h (by decide), fun h _ => absurd h (by decide), fun h _ => absurd h (by decide), fun h => absurd h (by decide), fun h _ => absurd h (by decide), fun h _ => absurd h (by decide), fun h _ => absurd h (by decide), fun h => absurd h (by decide), fun h => absurd h (by decide), fun h => absurd h (by decide), fun h => absurd h (by decide)⟩
              · refine ⟨?_, ?_, ?_, ?_, ?_, ?_, ?_, ?_, ?_, ?_, ?_, trivial⟩
                · intro f v w hf hd hcl I K hK
                  have n3 : f 3 = false := (by cases h : f 3 with | false => rfl | true => exact absurd ((hcl (3, [0]) (by simp) h 0 (by simp)).symm.trans hf) (by decide))
                  have n6 : f 6 = false := (by cases h : f 6 with | false => rfl | true => exact absurd ((hcl (6, [3, 5]) (by simp) h 3 (by simp)).symm.trans n3) (by decide))
                  have n10 : f 10 = false := (by cases h : f 10 with | false => rfl | true => exact absurd ((hcl (10, [6, 7]) (by simp) h 6 (by simp)).symm.trans n6) (by decide))
                  have n13 : f 13 = false := (by cases h : f 13 with | false => rfl | true => exact absurd ((hcl (13, [10, 12]) (by simp) h 10 (by simp)).symm.trans n10) (by decide))
                  have n14 : f 14 = false := (by cases h : f 14 with | false => rfl | true => exact absurd ((hcl (14, [6, 13]) (by simp) h 6 (by simp)).symm.trans n6) (by decide))
                  have n15 : f 15 = false := (by cases h : f 15 with | false => rfl | true => exact absurd ((hcl (15, [14]) (by simp) h 14 (by simp)).symm.trans n14) (by decide))
                  have n16 : f 16 = false := (by cases h : f 16 with | false => rfl | true => exact absurd ((hcl (16, [15]) (by simp) h 15 (by simp)).symm.trans n15) (by decide))
                  simp only [putAll]
                  go_simp
                  have hx := Ext.new (ext_refl w) (.cells #[] 39)
                  refine hK _ _ rfl (fun _ h => h.then hx) ?_
                  exact {
                    e := fun h15 => (I.e h15).then hx
                    c0 := fun _ _ => own_new rfl rfl (I.e n15).size (Nat.zero_le _)
                    c3 := fun h3 _ => absurd ((show f 3 = true from h3).symm.trans n3) (by decide)
                    c5 := fun h5 h6 => by
                      obtain ⟨g5, e, b, d0, d3⟩ := I.c5 h5 h6
                      refine ⟨g5, e, b.keep hx, fun _ _ h => ?_, fun h => absurd ((show f 3 = true from h).symm.trans n3) (by decide)⟩
                      have h1 : (Value.slice (some ⟨w.heap.size, 0, none⟩) 0 0).ownBlock = some g5 := h
                      simp only [Value.ownBlock, Option.some.injEq] at h1
                      have := b.lt; omega
                    c6 := fun h6 => absurd ((show f 6 = true from h6).symm.trans n6) (by decide)
                    c7 := fun h7 h10 => own_ext (I.c7 h7 h10) hx
                    c10 := fun h10 _ => absurd ((show f 10 = true from h10).symm.trans n10) (by decide)
                    c12 := fun h12 h13 => by obtain ⟨g5, e, b, d0, d3⟩ := (I.c12 h12 h13); exact ⟨g5, e, b.keep hx, d0, d3⟩
                    c13 := fun h13 => absurd ((show f 13 = true from h13).symm.trans n13) (by decide)
                    c14 := fun h14 => absurd ((show f 14 = true from h14).symm.trans n14) (by decide)
                    c15 := fun h15 => absurd ((show f 15 = true from h15).symm.trans n15) (by decide)
                    c16 := fun h16 => absurd ((show f 16 = true from h16).symm.trans n16) (by decide)
                  }
                · intro f v w hf hd hcl I K hK
                  have t0 : f 0 = true := hd 0 (by simp)
                  have n6 : f 6 = false := (by cases h : f 6 with | false => rfl | true => exact absurd ((hcl (6, [3, 5]) (by simp) h 3 (by simp)).symm.trans hf) (by decide))
                  have n10 : f 10 = false := (by cases h : f 10 with | false => rfl | true => exact absurd ((hcl (10, [6, 7]) (by simp) h 6 (by simp)).symm.trans n6) (by decide))
                  have n13 : f 13 = false := (by cases h : f 13 with | false => rfl | true => exact absurd ((hcl (13, [10, 12]) (by simp) h 10 (by simp)).symm.trans n10) (by decide))
                  have n14 : f 14 = false := (by cases h : f 14 with | false => rfl | true => exact absurd ((hcl (14, [6, 13]) (by simp) h 6 (by simp)).symm.trans n6) (by decide))
                  have n15 : f 15 = false := (by cases h : f 15 with | false => rfl | true => exact absurd ((hcl (15, [14]) (by simp) h 14 (by simp)).symm.trans n14) (by decide))
                  have n16 : f 16 = false := (by cases h : f 16 with | false => rfl | true => exact absurd ((hcl (16, [15]) (by simp) h 15 (by simp)).symm.trans n15) (by decide))
                  simp only [putAll, dstOf, List.getElem?_toArray, List.getElem?_cons_zero, Option.bind_some]
                  have O := I.c0 t0 hf
                  simp only [Act.put, List.setIfInBounds_toArray, List.set_cons_zero, List.set_cons_succ]
                  refine wp_app (.tmp 47) (.tmp 49) rowCo rfl _ 0 [] rfl O _ n (ens l1) rfl (Src.rd Tryz.underlying22 _ n c (ens l1) (by rw [ens_len, HL1.out]) (HAz.out.keep (I.e n15)) (ens_one _) HZA.out) (by have := HN6.out; simp only [maxLen]; omega) (by have := HN6.out; omega) (I.e n15).size ?_
                  intro vn w' hown hgrow hat hbel
                  refine hK _ _ rfl (fun _ h => Below.trans h hbel) ?_
                  exact {
                    e := fun h15 => Below.trans (I.e h15) hbel
                    c0 := fun _ h3 => absurd (show true = false from h3) (by decide)
                    c3 := fun _ _ => by rw [Nat.zero_add, List.nil_append] at hown; exact hown
                    c5 := fun h5 h6 => by
                      obtain ⟨g5, e, b, d0, d3⟩ := (I.c5 h5 h6)
                      have hne := d0 t0 hf
                      refine ⟨g5, e, Blk.grw b hgrow hne, fun h h' => absurd (show true = false from h') (by decide), fun _ h => ?_⟩
                      have h1 : vn.ownBlock = some g5 := h
                      rcases hat with h2 | h2
                      · exact hne (h2.symm.trans h1)
                      · rw [h2] at h1
                        simp only [Option.some.injEq] at h1
                        have := b.lt; omega
                    c6 := fun h6 => absurd ((show f 6 = true from h6).symm.trans n6) (by decide)
                    c7 := fun h7 h10 => ((I.c7 h7 h10)).kept hgrow (own_ne ((I.c7 h7 h10)) O (by decide))
                    c10 := fun h10 _ => absurd ((show f 10 = true from h10).symm.trans n10) (by decide)
                    c12 := fun h12 h13 => by obtain ⟨g5, e, b, d0, d3⟩ := (I.c12 h12 h13); exact ⟨g5, e, Blk.grw b hgrow (own_nblk O b (by decide)), d0, d3⟩
                    c13 := fun h13 => absurd ((show f 13 = true from h13).symm.trans n13) (by decide)
                    c14 := fun h14 => absurd ((show f 14 = true from h14).symm.trans n14) (by decide)
                    c15 := fun h15 => absurd ((show f 15 = true from h15).symm.trans n15) (by decide)
                    c16 := fun h16 => absurd ((show f 16 = true from h16).symm.trans n16) (by decide)
                  }
                · intro f v w hf hd hcl I K hK
                  have n6 : f 6 = false := (by cases h : f 6 with | false => rfl | true => exact absurd ((hcl (6, [3, 5]) (by simp) h 5 (by simp)).symm.trans hf) (by decide))
                  have n10 : f 10 = false := (by cases h : f 10 with | false => rfl | true => exact absurd ((hcl (10, [6, 7]) (by simp) h 6 (by simp)).symm.trans n6) (by decide))
                  have n13 : f 13 = false := (by cases h : f 13 with | false => rfl | true => exact absurd ((hcl (13, [10, 12]) (by simp) h 10 (by simp)).symm.trans n10) (by decide))
                  have n14 : f 14 = false := (by cases h : f 14 with | false => rfl | true => exact absurd ((hcl (14, [6, 13]) (by simp) h 6 (by simp)).symm.trans n6) (by decide))
                  have n15 : f 15 = false := (by cases h : f 15 with | false => rfl | true => exact absurd ((hcl (15, [14]) (by simp) h 14 (by simp)).symm.trans n14) (by decide))
                  have n16 : f 16 = false := (by cases h : f 16 with | false => rfl | true => exact absurd ((hcl (16, [15]) (by simp) h 15 (by simp)).symm.trans n15) (by decide))
                  simp only [putAll]
                  go_simp
                  have hx := Ext.new (ext_refl w) (.cells #[.string cs, .int .i64 ck] 39)
                  refine hK _ _ rfl (fun _ h => h.then hx) ?_
                  exact {
                    e := fun h15 => (I.e h15).then hx
                    c0 := fun h0 h3 => own_ext (I.c0 h0 h3) hx
                    c3 := fun h3 h6 => own_ext (I.c3 h3 h6) hx
                    c5 := fun _ _ => ⟨_, rfl, Blk.new _ _ _, fun h0 h3 h => by have := (own_block_rng (I.c0 h0 h3) h).2; omega, fun h3 h => by have := (own_block_rng (I.c3 h3 n6) h).2; omega⟩
                    c6 := fun h6 => absurd ((show f 6 = true from h6).symm.trans n6) (by decide)
                    c7 := fun h7 h10 => own_ext (I.c7 h7 h10) hx
                    c10 := fun h10 _ => absurd ((show f 10 = true from h10).symm.trans n10) (by decide)
                    c12 := fun h12 h13 => by obtain ⟨g5, e, b, d0, d3⟩ := (I.c12 h12 h13); exact ⟨g5, e, b.keep hx, d0, d3⟩
                    c13 := fun h13 => absurd ((show f 13 = true from h13).symm.trans n13) (by decide)
                    c14 := fun h14 => absurd ((show f 14 = true from h14).symm.trans n14) (by decide)
                    c15 := fun h15 => absurd ((show f 15 = true from h15).symm.trans n15) (by decide)
                    c16 := fun h16 => absurd ((show f 16 = true from h16).symm.trans n16) (by decide)
                  }
                · intro f v w hf hd hcl I K hK
                  have t3 : f 3 = true := hd 3 (by simp)
                  have t5 : f 5 = true := hd 5 (by simp)
                  have t0 : f 0 = true := hcl (3, [0]) (by simp) t3 0 (by simp)
                  have n10 : f 10 = false := (by cases h : f 10 with | false => rfl | true => exact absurd ((hcl (10, [6, 7]) (by simp) h 6 (by simp)).symm.trans hf) (by decide))
                  have n13 : f 13 = false := (by cases h : f 13 with | false => rfl | true => exact absurd ((hcl (13, [10, 12]) (by simp) h 10 (by simp)).symm.trans n10) (by decide))
                  have n14 : f 14 = false := (by cases h : f 14 with | false => rfl | true => exact absurd ((hcl (14, [6, 13]) (by simp) h 6 (by simp)).symm.trans hf) (by decide))
                  have n15 : f 15 = false := (by cases h : f 15 with | false => rfl | true => exact absurd ((hcl (15, [14]) (by simp) h 14 (by simp)).symm.trans n14) (by decide))
                  have n16 : f 16 = false := (by cases h : f 16 with | false => rfl | true => exact absurd ((hcl (16, [15]) (by simp) h 15 (by simp)).symm.trans n15) (by decide))
                  simp only [putAll, dstOf, List.getElem?_toArray, List.getElem?_cons_zero, List.getElem?_cons_succ, Option.bind_some]
                  obtain ⟨g5, e5, b5, _, _⟩ := I.c5 t5 hf
                  rw [e5]
                  have O := I.c3 t3 hf
                  simp only [Act.put, List.setIfInBounds_toArray, List.set_cons_zero, List.set_cons_succ]
                  refine wp_app (.tmp 50) (.tmp 52) rowCo rfl _ n (ens l1) rfl O _ 1 (ens [(cs, ck)]) rfl (Src.rd Tryz.underlying22 _ 1 1 (ens [(cs, ck)]) rfl (rd_blk b5 rfl) (ens_one _) (fun h => by cases h)) (by have := HN6.out; simp only [maxLen]; omega) (by have := HN6.out; omega) (I.e n15).size ?_
                  intro vn w' hown hgrow hat hbel
                  refine hK _ _ rfl (fun _ h => Below.trans h hbel) ?_
                  exact {
                    e := fun h15 => Below.trans (I.e h15) hbel
                    c0 := fun _ h3 => absurd ((show f 3 = false from h3).symm.trans t3) (by decide)
                    c3 := fun _ h6 => absurd (show true = false from h6) (by decide)
                    c5 := fun _ h6 => absurd (show true = false from h6) (by decide)
                    c6 := fun _ => by
                      rw [← ens_app] at hown
                      obtain ⟨A1, q1, e, _⟩ := Rd.owned hown
                      exact ⟨A1, q1, e, by rw [e] at hown; exact hown⟩
                    c7 := fun h7 h10 => ((I.c7 h7 h10)).kept hgrow (own_ne ((I.c7 h7 h10)) O (by decide))
                    c10 := fun h10 _ => absurd ((show f 10 = true from h10).symm.trans n10) (by decide)
                    c12 := fun h12 h13 => by obtain ⟨g5, e, b, d0, d3⟩ := (I.c12 h12 h13); exact ⟨g5, e, Blk.grw b hgrow (own_nblk O b (by decide)), d0, d3⟩
                    c13 := fun h13 => absurd ((show f 13 = true from h13).symm.trans n13) (by decide)
                    c14 := fun h14 => absurd ((show f 14 = true from h14).symm.trans n14) (by decide)
                    c15 := fun h15 => absurd ((show f 15 = true from h15).symm.trans n15) (by decide)
                    c16 := fun h16 => absurd ((show f 16 = true from h16).symm.trans n16) (by decide)
                  }
                · intro f v w hf hd hcl I K hK
                  have n10 : f 10 = false := (by cases h : f 10 with | false => rfl | true => exact absurd ((hcl (10, [6, 7]) (by simp) h 7 (by simp)).symm.trans hf) (by decide))
                  have n13 : f 13 = false := (by cases h : f 13 with | false => rfl | true => exact absurd ((hcl (13, [10, 12]) (by simp) h 10 (by simp)).symm.trans n10) (by decide))
                  have n14 : f 14 = false := (by cases h : f 14 with | false => rfl | true => exact absurd ((hcl (14, [6, 13]) (by simp) h 13 (by simp)).symm.trans n13) (by decide))
                  have n15 : f 15 = false := (by cases h : f 15 with | false => rfl | true => exact absurd ((hcl (15, [14]) (by simp) h 14 (by simp)).symm.trans n14) (by decide))
                  have n16 : f 16 = false := (by cases h : f 16 with | false => rfl | true => exact absurd ((hcl (16, [15]) (by simp) h 15 (by simp)).symm.trans n15) (by decide))
                  simp only [putAll]
                  go_simp
                  have hx := Ext.new (ext_refl w) (.cells #[] 45)
                  refine hK _ _ rfl (fun _ h => h.then hx) ?_
                  exact {
                    e := fun h15 => (I.e h15).then hx
                    c0 := fun h0 h3 => own_ext (I.c0 h0 h3) hx
                    c3 := fun h3 h6 => own_ext (I.c3 h3 h6) hx
                    c5 := fun h5 h6 => by obtain ⟨g5, e, b, d0, d3⟩ := (I.c5 h5 h6); exact ⟨g5, e, b.keep hx, d0, d3⟩
                    c6 := fun h6 => by obtain ⟨A1, q1, e, r⟩ := (I.c6 h6); exact ⟨A1, q1, e, own_ext r hx⟩
                    c7 := fun _ _ => own_new rfl rfl (I.e n15).size (Nat.zero_le _)
                    c10 := fun h10 _ => absurd ((show f 10 = true from h10).symm.trans n10) (by decide)
                    c12 := fun h12 h13 => by
                      obtain ⟨g5, e, b, d0, d3⟩ := I.c12 h12 h13
                      refine ⟨g5, e, b.keep hx, fun _ _ h => ?_, fun h => absurd ((show f 10 = true from h).symm.trans n10) (by decide)⟩
                      have h1 : (Value.slice (some ⟨w.heap.size, 0, none⟩) 0 0).ownBlock = some g5 := h
                      simp only [Value.ownBlock, Option.some.injEq] at h1
                      have := b.lt; omega
                    c13 := fun h13 => absurd ((show f 13 = true from h13).symm.trans n13) (by decide)
                    c14 := fun h14 => absurd ((show f 14 = true from h14).symm.trans n14) (by decide)
                    c15 := fun h15 => absurd ((show f 15 = true from h15).symm.trans n15) (by decide)
                    c16 := fun h16 => absurd ((show f 16 = true from h16).symm.trans n16) (by decide)
                  }
                · intro f v w hf hd hcl I K hK
                  have t6 : f 6 = true := hd 6 (by simp)
                  have t7 : f 7 = true := hd 7 (by simp)
                  have t3 : f 3 = true := hcl (6, [3, 5]) (by simp) t6 3 (by simp)
                  have t5 : f 5 = true := hcl (6, [3, 5]) (by simp) t6 5 (by simp)
                  have t0 : f 0 = true := hcl (3, [0]) (by simp) t3 0 (by simp)
                  have n13 : f 13 = false := (by cases h : f 13 with | false => rfl | true => exact absurd ((hcl (13, [10, 12]) (by simp) h 10 (by simp)).symm.trans hf) (by decide))
                  have n14 : f 14 = false := (by cases h : f 14 with | false => rfl | true => exact absurd ((hcl (14, [6, 13]) (by simp) h 13 (by simp)).symm.trans n13) (by decide))
                  have n15 : f 15 = false := (by cases h : f 15 with | false => rfl | true => exact absurd ((hcl (15, [14]) (by simp) h 14 (by simp)).symm.trans n14) (by decide))
                  have n16 : f 16 = false := (by cases h : f 16 with | false => rfl | true => exact absurd ((hcl (16, [15]) (by simp) h 15 (by simp)).symm.trans n15) (by decide))
                  simp only [putAll, dstOf, List.getElem?_toArray, List.getElem?_cons_zero, List.getElem?_cons_succ, Option.bind_some]
                  have O := I.c7 t7 hf
                  simp only [Act.put, List.setIfInBounds_toArray, List.set_cons_zero, List.set_cons_succ]
                  refine wp_app (.tmp 54) (.tmp 56) rowRo rfl _ 0 [] rfl O _ m (rws' L) rfl (Src.rd Tryz.underlying23 _ m d (rws' L) (by rw [rws_len, HLLM.out, Nat.mul_one]) (HBz.out.keep (I.e n15)) (rws_one _) HZB.out) (by have := HM6.out; simp only [maxLen]; omega) (by have := HM6.out; omega) (I.e n15).size ?_
                  intro vn w' hown hgrow hat hbel
                  refine hK _ _ rfl (fun _ h => Below.trans h hbel) ?_
                  exact {
                    e := fun h15 => Below.trans (I.e h15) hbel
                    c0 := fun _ h3 => absurd ((show f 3 = false from h3).symm.trans t3) (by decide)
                    c3 := fun _ h6 => absurd ((show f 6 = false from h6).symm.trans t6) (by decide)
                    c5 := fun _ h6 => absurd ((show f 6 = false from h6).symm.trans t6) (by decide)
                    c6 := fun h6 => by obtain ⟨A1, q1, e, r⟩ := (I.c6 h6); exact ⟨A1, q1, e, r.kept hgrow (own_ne r O (by decide))⟩
                    c7 := fun _ h10 => absurd (show true = false from h10) (by decide)
                    c10 := fun _ _ => by rw [Nat.zero_add, List.nil_append] at hown; exact hown
                    c12 := fun h12 h13 => by
                      obtain ⟨g5, e, b, d0, d3⟩ := (I.c12 h12 h13)
                      have hne := d0 t7 hf
                      refine ⟨g5, e, Blk.grw b hgrow hne, fun h h' => absurd (show true = false from h') (by decide), fun _ h => ?_⟩
                      have h1 : vn.ownBlock = some g5 := h
                      rcases hat with h2 | h2
                      · exact hne (h2.symm.trans h1)
                      · rw [h2] at h1
                        simp only [Option.some.injEq] at h1
                        have := b.lt; omega
                    c13 := fun h13 => absurd ((show f 13 = true from h13).symm.trans n13) (by decide)
                    c14 := fun h14 => absurd ((show f 14 = true from h14).symm.trans n14) (by decide)
                    c15 := fun h15 => absurd ((show f 15 = true from h15).symm.trans n15) (by decide)
                    c16 := fun h16 => absurd ((show f 16 = true from h16).symm.trans n16) (by decide)
                  }
                · intro f v w hf hd hcl I K hK
                  have n13 : f 13 = false := (by cases h : f 13 with | false => rfl | true => exact absurd ((hcl (13, [10, 12]) (by simp) h 12 (by simp)).symm.trans hf) (by decide))
                  have n14 : f 14 = false := (by cases h : f 14 with | false => rfl | true => exact absurd ((hcl (14, [6, 13]) (by simp) h 13 (by simp)).symm.trans n13) (by decide))
                  have n15 : f 15 = false := (by cases h : f 15 with | false => rfl | true => exact absurd ((hcl (15, [14]) (by simp) h 14 (by simp)).symm.trans n14) (by decide))
                  have n16 : f 16 = false := (by cases h : f 16 with | false => rfl | true => exact absurd ((hcl (16, [15]) (by simp) h 15 (by simp)).symm.trans n15) (by decide))
                  simp only [putAll]
                  go_simp
                  have hx := Ext.new (ext_refl w) (.cells #[.slice Al k cl] 45)
                  refine hK _ _ rfl (fun _ h => h.then hx) ?_
                  exact {
                    e := fun h15 => (I.e h15).then hx
                    c0 := fun h0 h3 => own_ext (I.c0 h0 h3) hx
                    c3 := fun h3 h6 => own_ext (I.c3 h3 h6) hx
                    c5 := fun h5 h6 => by obtain ⟨g5, e, b, d0, d3⟩ := (I.c5 h5 h6); exact ⟨g5, e, b.keep hx, d0, d3⟩
                    c6 := fun h6 => by obtain ⟨A1, q1, e, r⟩ := (I.c6 h6); exact ⟨A1, q1, e, own_ext r hx⟩
                    c7 := fun h7 h10 => own_ext (I.c7 h7 h10) hx
                    c10 := fun h10 h13 => own_ext (I.c10 h10 h13) hx
                    c12 := fun _ _ => ⟨_, rfl, Blk.new _ _ _, fun h0 h3 h => by have := (own_block_rng (I.c7 h0 h3) h).2; omega, fun h3 h => by have := (own_block_rng (I.c10 h3 n13) h).2; omega⟩
                    c13 := fun h13 => absurd ((show f 13 = true from h13).symm.trans n13) (by decide)
                    c14 := fun h14 => absurd ((show f 14 = true from h14).symm.trans n14) (by decide)
                    c15 := fun h15 => absurd ((show f 15 = true from h15).symm.trans n15) (by decide)
                    c16 := fun h16 => absurd ((show f 16 = true from h16).symm.trans n16) (by decide)
                  }
                · intro f v w hf hd hcl I K hK
                  have t10 : f 10 = true := hd 10 (by simp)
                  have t12 : f 12 = true := hd 12 (by simp)
                  have t6 : f 6 = true := hcl (10, [6, 7]) (by simp) t10 6 (by simp)
                  have t7 : f 7 = true := hcl (10, [6, 7]) (by simp) t10 7 (by simp)
                  have t3 : f 3 = true := hcl (6, [3, 5]) (by simp) t6 3 (by simp)
                  have t5 : f 5 = true := hcl (6, [3, 5]) (by simp) t6 5 (by simp)
                  have t0 : f 0 = true := hcl (3, [0]) (by simp) t3 0 (by simp)
                  have n14 : f 14 = false := (by cases h : f 14 with | false => rfl | true => exact absurd ((hcl (14, [6, 13]) (by simp) h 13 (by simp)).symm.trans hf) (by decide))
                  have n15 : f 15 = false := (by cases h : f 15 with | false => rfl | true => exact absurd ((hcl (15, [14]) (by simp) h 14 (by simp)).symm.trans n14) (by decide))
                  have n16 : f 16 = false := (by cases h : f 16 with | false => rfl | true => exact absurd ((hcl (16, [15]) (by simp) h 15 (by simp)).symm.trans n15) (by decide))
                  simp only [putAll, dstOf, List.getElem?_toArray, List.getElem?_cons_zero, List.getElem?_cons_succ, Option.bind_some]
                  obtain ⟨g5, e5, b5, _, _⟩ := I.c12 t12 hf
                  rw [e5]
                  have O := I.c10 t10 hf
                  simp only [Act.put, List.setIfInBounds_toArray, List.set_cons_zero, List.set_cons_succ]
                  refine wp_app (.tmp 57) (.tmp 59) rowRo rfl _ m (rws' L) rfl O _ 1 (rws' [((Al, k, cl), lst)]) rfl (Src.rd Tryz.underlying23 _ 1 1 (rws' [((Al, k, cl), lst)]) rfl (rd_blk b5 rfl) (rws_one _) (fun h => by cases h)) (by have := HM6.out; simp only [maxLen]; omega) (by have := HM6.out; omega) (I.e n15).size ?_
                  intro vn w' hown hgrow hat hbel
                  refine hK _ _ rfl (fun _ h => Below.trans h hbel) ?_
                  exact {
                    e := fun h15 => Below.trans (I.e h15) hbel
                    c0 := fun _ h3 => absurd ((show f 3 = false from h3).symm.trans t3) (by decide)
                    c3 := fun _ h6 => absurd ((show f 6 = false from h6).symm.trans t6) (by decide)
                    c5 := fun _ h6 => absurd ((show f 6 = false from h6).symm.trans t6) (by decide)
                    c6 := fun h6 => by obtain ⟨A1, q1, e, r⟩ := (I.c6 h6); exact ⟨A1, q1, e, r.kept hgrow (own_ne r O (by decide))⟩
                    c7 := fun _ h10 => absurd ((show f 10 = false from h10).symm.trans t10) (by decide)
                    c10 := fun _ h13 => absurd (show true = false from h13) (by decide)
                    c12 := fun _ h13 => absurd (show true = false from h13) (by decide)
                    c13 := fun _ => by
                      rw [← rws_app] at hown
                      obtain ⟨A1, q1, e, _⟩ := Rd.owned hown
                      exact ⟨A1, q1, e, by rw [e] at hown; exact hown⟩
                    c14 := fun h14 => absurd ((show f 14 = true from h14).symm.trans n14) (by decide)
                    c15 := fun h15 => absurd ((show f 15 = true from h15).symm.trans n15) (by decide)
                    c16 := fun h16 => absurd ((show f 16 = true from h16).symm.trans n16) (by decide)
                  }
                · intro f v w hf hd hcl I K hK
                  have t6 : f 6 = true := hd 6 (by simp)
                  have t13 : f 13 = true := hd 13 (by simp)
                  have t3 : f 3 = true := hcl (6, [3, 5]) (by simp) t6 3 (by simp)
                  have t5 : f 5 = true := hcl (6, [3, 5]) (by simp) t6 5 (by simp)
                  have t10 : f 10 = true := hcl (13, [10, 12]) (by simp) t13 10 (by simp)
                  have t12 : f 12 = true := hcl (13, [10, 12]) (by simp) t13 12 (by simp)
                  have t0 : f 0 = true := hcl (3, [0]) (by simp) t3 0 (by simp)
                  have t7 : f 7 = true := hcl (10, [6, 7]) (by simp) t10 7 (by simp)
                  have n15 : f 15 = false := (by cases h : f 15 with | false => rfl | true => exact absurd ((hcl (15, [14]) (by simp) h 14 (by simp)).symm.trans hf) (by decide))
                  have n16 : f 16 = false := (by cases h : f 16 with | false => rfl | true => exact absurd ((hcl (16, [15]) (by simp) h 15 (by simp)).symm.trans n15) (by decide))
                  simp only [putAll, dstOf, List.getElem?_toArray, List.getElem?_cons_zero, List.getElem?_cons_succ, Option.bind_some]
                  obtain ⟨A1, q1, e6, _⟩ := I.c6 t6
                  obtain ⟨B1, q2, e13, _⟩ := I.c13 t13
                  rw [e6, e13]
                  go_simp
                  refine hK _ _ rfl (fun _ h => h) ?_
                  exact {
                    e := fun h15 => (I.e h15)
                    c0 := fun _ h3 => absurd ((show f 3 = false from h3).symm.trans t3) (by decide)
                    c3 := fun _ h6 => absurd ((show f 6 = false from h6).symm.trans t6) (by decide)
                    c5 := fun _ h6 => absurd ((show f 6 = false from h6).symm.trans t6) (by decide)
                    c6 := fun h6 => (I.c6 h6)
                    c7 := fun _ h10 => absurd ((show f 10 = false from h10).symm.trans t10) (by decide)
                    c10 := fun _ h13 => absurd ((show f 13 = false from h13).symm.trans t13) (by decide)
                    c12 := fun _ h13 => absurd ((show f 13 = false from h13).symm.trans t13) (by decide)
                    c13 := fun h13 => (I.c13 h13)
                    c14 := fun _ => by show Value.agg #[.slice A1 (n + 1) q1, .slice B1 (m + 1) q2] = Value.agg #[v 6, v 13]; rw [e6, e13]
                    c15 := fun h15 => absurd ((show f 15 = true from h15).symm.trans n15) (by decide)
                    c16 := fun h16 => absurd ((show f 16 = true from h16).symm.trans n16) (by decide)
                  }
                · intro f v w hf hd hcl I K hK
                  have t14 : f 14 = true := hd 14 (by simp)
                  have t6 : f 6 = true := hcl (14, [6, 13]) (by simp) t14 6 (by simp)
                  have t13 : f 13 = true := hcl (14, [6, 13]) (by simp) t14 13 (by simp)
                  have t3 : f 3 = true := hcl (6, [3, 5]) (by simp) t6 3 (by simp)
                  have t5 : f 5 = true := hcl (6, [3, 5]) (by simp) t6 5 (by simp)
                  have t10 : f 10 = true := hcl (13, [10, 12]) (by simp) t13 10 (by simp)
                  have t12 : f 12 = true := hcl (13, [10, 12]) (by simp) t13 12 (by simp)
                  have t0 : f 0 = true := hcl (3, [0]) (by simp) t3 0 (by simp)
                  have t7 : f 7 = true := hcl (10, [6, 7]) (by simp) t10 7 (by simp)
                  have n16 : f 16 = false := (by cases h : f 16 with | false => rfl | true => exact absurd ((hcl (16, [15]) (by simp) h 15 (by simp)).symm.trans hf) (by decide))
                  simp only [putAll, dstOf, List.getElem?_toArray, List.getElem?_cons_zero, List.getElem?_cons_succ, Option.bind_some]
                  obtain ⟨A1, q1, e6, r6⟩ := I.c6 t6
                  obtain ⟨B1, q2, e13, r13⟩ := I.c13 t13
                  have E := I.e hf
                  have BG := HBR.out.keep E
                  have q0 := BG.cell 0
                  have q1' := BG.cell 1
                  have f0 := BG.frozen 0
                  have f1 := BG.frozen 1
                  have lg := BG.lt
                  rw [I.c14 t14, e6, e13]
                  go_simp
                  refine hK _ _ rfl (fun h => by cases h) ?_
                  have BF := ((BG.set 0 (.slice A1 (n + 1) q1)).set 1 (.slice B1 (m + 1) q2)).cast (cs' := #[.slice A1 (n + 1) q1, .slice B1 (m + 1) q2]) (by simp)
                  have hput : ∀ {base : Nat} {e : TypeId} {size : Nat} {u : Value} {q : Nat} {xs : List Value}, w.ownsRow base e size u q xs → e ≠ 25 → ((w.setCell ⟨g3, 0, none⟩ (.slice A1 (n + 1) q1)).setCell ⟨g3, 1, none⟩ (.slice B1 (m + 1) q2)).ownsRow base e size u q xs := fun h he => own_put (own_put h (p := ⟨g3, 0, none⟩) (own_nblk h BG he) _) (p := ⟨g3, 1, none⟩) (own_nblk h BG he) _
                  exact {
                    e := fun h15 => absurd (show true = false from h15) (by decide)
                    c0 := fun _ h3 => absurd ((show f 3 = false from h3).symm.trans t3) (by decide)
                    c3 := fun _ h6 => absurd ((show f 6 = false from h6).symm.trans t6) (by decide)
                    c5 := fun _ h6 => absurd ((show f 6 = false from h6).symm.trans t6) (by decide)
                    c6 := fun _ => ⟨A1, q1, e6, hput r6 (by decide)⟩
                    c7 := fun _ h10 => absurd ((show f 10 = false from h10).symm.trans t10) (by decide)
                    c10 := fun _ h13 => absurd ((show f 13 = false from h13).symm.trans t13) (by decide)
                    c12 := fun _ h13 => absurd ((show f 13 = false from h13).symm.trans t13) (by decide)
                    c13 := fun _ => ⟨B1, q2, e13, hput r13 (by decide)⟩
                    c14 := fun h14 => (I.c14 h14)
                    c15 := fun _ => ⟨A1, q1, B1, q2, e6, e13, BF, Ext.put (Ext.put (X4.out.then E) (p := ⟨g3, 0, none⟩) HG3.out _) (p := ⟨g3, 1, none⟩) HG3.out _, hput (own_ext HO4.out E) (by decide)⟩
                    c16 := fun h16 => absurd ((show f 16 = true from h16).symm.trans n16) (by decide)
                  }
                · intro f v w hf hd hcl I K hK
                  have t15 : f 15 = true := hd 15 (by simp)
                  have t14 : f 14 = true := hcl (15, [14]) (by simp) t15 14 (by simp)
                  have t6 : f 6 = true := hcl (14, [6, 13]) (by simp) t14 6 (by simp)
                  have t13 : f 13 = true := hcl (14, [6, 13]) (by simp) t14 13 (by simp)
                  have t3 : f 3 = true := hcl (6, [3, 5]) (by simp) t6 3 (by simp)
                  have t5 : f 5 = true := hcl (6, [3, 5]) (by simp) t6 5 (by simp)
                  have t10 : f 10 = true := hcl (13, [10, 12]) (by simp) t13 10 (by simp)
                  have t12 : f 12 = true := hcl (13, [10, 12]) (by simp) t13 12 (by simp)
                  have t0 : f 0 = true := hcl (3, [0]) (by simp) t3 0 (by simp)
                  have t7 : f 7 = true := hcl (10, [6, 7]) (by simp) t10 7 (by simp)
                  simp only [putAll, dstOf, List.getElem?_toArray, List.getElem?_cons_zero, List.getElem?_cons_succ, Option.bind_some]
                  go_simp
                  refine hK _ _ rfl (fun h => by cases h) ?_
                  exact {
                    e := fun h15 => absurd ((show f 15 = false from h15).symm.trans t15) (by decide)
                    c0 := fun _ h3 => absurd ((show f 3 = false from h3).symm.trans t3) (by decide)
                    c3 := fun _ h6 => absurd ((show f 6 = false from h6).symm.trans t6) (by decide)
                    c5 := fun _ h6 => absurd ((show f 6 = false from h6).symm.trans t6) (by decide)
                    c6 := fun h6 => (I.c6 h6)
                    c7 := fun _ h10 => absurd ((show f 10 = false from h10).symm.trans t10) (by decide)
                    c10 := fun _ h13 => absurd ((show f 13 = false from h13).symm.trans t13) (by decide)
                    c12 := fun _ h13 => absurd ((show f 13 = false from h13).symm.trans t13) (by decide)
                    c13 := fun h13 => (I.c13 h13)
                    c14 := fun h14 => (I.c14 h14)
                    c15 := fun h15 => (I.c15 h15)
                    c16 := fun _ => rfl
                  }
              · intro f v w' hall I
                obtain ⟨A1, q1, B1, q2, e6, e13, BF, XF, OL⟩ := I.c15 (hall 15 (by simp))
                obtain ⟨A1', q1', e6', O6⟩ := I.c6 (hall 6 (by simp))
                obtain ⟨B1', q2', e13', O13⟩ := I.c13 (hall 13 (by simp))
                have e16 := I.c16 (hall 16 (by simp))
                obtain ⟨rfl, rfl⟩ : A1 = A1' ∧ q1 = q1' := by have := e6.symm.trans e6'; simpa using this
                obtain ⟨rfl, rfl⟩ : B1 = B1' ∧ q2 = q2' := by have := e13.symm.trans e13'; simpa using this
                simp only [List.map_cons, List.map_nil, putAll, dstOf, List.getElem?_toArray, List.getElem?_cons_zero, List.getElem?_cons_succ, Option.bind_some]
                rw [e16]
                simp only [Act.put, List.setIfInBounds_toArray, List.set_cons_zero, List.set_cons_succ]
                have HBF := hid BF
                have HXF := hid XF
                have HO6 := hid O6
                have HO13 := hid O13
                have HOL := hid OL
                clear BF XF O6 O13 OL e6 e13 e6' e13' e16 I
                go_wp2
                refine bodyPost_ret (results_blk2 rfl _ _ g3 25 _ _ rfl HBF.out Tryz.underlying25 rfl (by kernel_rfl)) rfl ?_
                obtain ⟨rA, zA, cA⟩ := own_rd HO6.out
                obtain ⟨rB, zB, cB⟩ := own_rd HO13.out
                refine ⟨_, by rw [HV.out]; rfl, ?_, HXF.out⟩
                rw [HV.out, Tb.res_ok]
                have hl : (Tb.addT t (cs, ck) (xk, xn, xs)).1.length = n + 1 := by simp only [Tb.addT, List.length_append, List.length_cons, List.length_nil]; rw [← HNN.out]
                have hl2 : (Tb.addT t (cs, ck) (xk, xn, xs)).2.length = m + 1 := by simp only [Tb.addT, List.length_append, List.length_cons, List.length_nil]; rw [← HM.out]
                refine ⟨A1, q1, B1, q2, L ++ [((Al, k, cl), lst)], by rw [hl, hl2], by rw [HLL1.out] at rA; exact rA, rB, ?_, fun x hx => ?_, fun h => by rw [hl]; exact zA h, fun h => by rw [hl2]; exact zB h, by rw [hl]; exact cA⟩
                · rw [List.map_append, HLM.out, HLST.out, HMM.out]; rfl
                · rcases List.mem_append.1 hx with hx | hx
                  · exact (HOK.out x hx).keep HXF.out
                  · simp only [List.mem_cons, List.not_mem_nil, or_false] at hx
                    subst hx
                    exact RwO.ok (base := w3.heap.size) HOL.out
        · have HV := hid hE'
          have HNE := hid hc2
          have e1 : ((E2 : Int) == 0) = false := beq_eq_false_iff_ne.2 (by omega)
          have e2 : ((E2 : Int) != 0) = true := by simp; omega
          clear hv hb hR h0 hsz hn hm h1 h2 hL hok hc hrt h6 hlen hlim hza hzb hE1 hc2 hE hE' hE2 hsix
          go_enter Tryz.func26, Tryz.ntmps26
          go_upto_region 1 with fail
          refine wp_gen (fun w' => Ext w w' ∧ Blk w' (w.heap.size) 25 #[.slice A n c, .slice B m d] ∧ Blk w' (w.heap.size + 1) 39 #[.string cs, .int .i64 ck] ∧ Blk w' (w.heap.size + 1 + 1) 42 #[.int .i64 xk, .int .u64 (xn : Nat), .string xs] ∧ Blk w' (w.heap.size + 1 + 1 + 1) 25 #[.slice none 0 0, .slice none 0 0]) ⟨(((((ext_refl w)).new _).new _).new _).new _, ((((Blk.new _ _ _)).alloc _).alloc _).alloc _, (((blk_at _ _ (by simp))).alloc _).alloc _, ((blk_at _ _ (by simp))).alloc _, (blk_at _ _ (by simp))⟩ ?_
          rintro wz ⟨x0, x1, x2, x3, x4⟩
          have X : Hid (Ext w wz) := hid x0
          have BT := hid x1
          have BC := hid x2
          have BX := hid x3
          have BR := hid x4
          clear x0 x1 x2 x3 x4
          have kBT0 := BT.out.cell 0
          have kBT1 := BT.out.cell 1
          go_wp2_with fail
          refine Calls.mono (HTC.out _ X.out) ?_
          rintro e w1 ⟨rfl, hx⟩
          replace X := hid (X.out.then hx)
          replace BR := hid (BR.out.keep hx)
          replace BT := hid (BT.out.keep hx)
          replace BC := hid (BC.out.keep hx)
          replace BX := hid (BX.out.keep hx)
          clear kBT0 kBT1 hx
          have kC0 := BC.out.cell 0
          have kC1 := BC.out.cell 1
          have kBT0 := BT.out.cell 0
          go_wp2_with fail
          refine Calls.mono (HOC.out _ X.out) ?_
          rintro e w2 ⟨rfl, hx⟩
          replace X := hid (X.out.then hx)
          replace BR := hid (BR.out.keep hx)
          replace BT := hid (BT.out.keep hx)
          replace BC := hid (BC.out.keep hx)
          replace BX := hid (BX.out.keep hx)
          clear kBT0 hx kC0 kC1
          have kBT0 := BT.out.cell 0
          have kC1 := BC.out.cell 1
          have kBX0 := BX.out.cell 0
          have kBX1 := BX.out.cell 1
          have kBX2 := BX.out.cell 2
          go_wp2_with fail
          refine Calls.mono (HCE.out _) ?_
          rintro e w3 ⟨rfl, hx⟩
          replace X := hid (X.out.then hx)
          replace BR := hid (BR.out.keep hx)
          replace BT := hid (BT.out.keep hx)
          replace BC := hid (BC.out.keep hx)
          replace BX := hid (BX.out.keep hx)
          clear kBX0 kBX1 kBX2 hx kBT0 kC1
          have q0 := BR.out.cell 0
          have q1 := BR.out.cell 1
          have f0 := BR.out.frozen 0
          have f1 := BR.out.frozen 1
          have ql := BR.out.lt
          go_wp2
          have HBF := hid (((BR.out.set 0 (.slice none 0 0)).set 1 (.slice none 0 0)).cast (cs' := #[.slice none 0 0, .slice none 0 0]) (by simp))
          have XF := hid (Ext.put (Ext.put X.out (p := ⟨w.heap.size + 1 + 1 + 1, 0, none⟩) (by simp only; omega) (.slice none 0 0)) (p := ⟨w.heap.size + 1 + 1 + 1, 1, none⟩) (by simp only; omega) (.slice none 0 0))
          refine bodyPost_ret (results_blk2 rfl _ _ (w.heap.size + 1 + 1 + 1) 25 _ _ rfl HBF.out Tryz.underlying25 rfl (by kernel_rfl)) rfl ?_
          exact ⟨_, by rw [HV.out]; rfl, by rw [HV.out, Tb.res_no HNE.out]; exact tb0_V _, XF.out⟩
    · have HV := hid (hR.trans ((Tb.addE_col h0 (by rw [← hE1]; exact hc1)).trans hE1.symm))
      have HNE := hid hc1
      have e1 : ((E1 : Int) == 0) = false := beq_eq_false_iff_ne.2 (by omega)
      have e2 : ((E1 : Int) != 0) = true := by simp; omega
      clear hv hb hR h0 hsz hn hm h1 h2 hL hok hc hrt h6 hlen hlim hza hzb hE1 hc1
      go_enter Tryz.func26, Tryz.ntmps26
      go_upto_region 1 with fail
      refine wp_gen (fun w' => Ext w w' ∧ Blk w' (w.heap.size) 25 #[.slice A n c, .slice B m d] ∧ Blk w' (w.heap.size + 1) 39 #[.string cs, .int .i64 ck] ∧ Blk w' (w.heap.size + 1 + 1) 42 #[.int .i64 xk, .int .u64 (xn : Nat), .string xs] ∧ Blk w' (w.heap.size + 1 + 1 + 1) 25 #[.slice none 0 0, .slice none 0 0]) ⟨(((((ext_refl w)).new _).new _).new _).new _, ((((Blk.new _ _ _)).alloc _).alloc _).alloc _, (((blk_at _ _ (by simp))).alloc _).alloc _, ((blk_at _ _ (by simp))).alloc _, (blk_at _ _ (by simp))⟩ ?_
      rintro wz ⟨x0, x1, x2, x3, x4⟩
      have X : Hid (Ext w wz) := hid x0
      have BT := hid x1
      have BC := hid x2
      have BX := hid x3
      have BR := hid x4
      clear x0 x1 x2 x3 x4
      have kBT0 := BT.out.cell 0
      have kBT1 := BT.out.cell 1
      go_wp2_with fail
      refine Calls.mono (HTC.out _ X.out) ?_
      rintro e w1 ⟨rfl, hx⟩
      replace X := hid (X.out.then hx)
      replace BR := hid (BR.out.keep hx)
      replace BT := hid (BT.out.keep hx)
      replace BC := hid (BC.out.keep hx)
      replace BX := hid (BX.out.keep hx)
      clear kBT0 kBT1 hx
      have kC0 := BC.out.cell 0
      have kC1 := BC.out.cell 1
      have kBT0 := BT.out.cell 0
      go_wp2_with fail
      refine Calls.mono (HOC.out _ X.out) ?_
      rintro e w2 ⟨rfl, hx⟩
      replace X := hid (X.out.then hx)
      replace BR := hid (BR.out.keep hx)
      replace BT := hid (BT.out.keep hx)
      replace BC := hid (BC.out.keep hx)
      replace BX := hid (BX.out.keep hx)
      clear kBT0 hx kC0 kC1
      have q0 := BR.out.cell 0
      have q1 := BR.out.cell 1
      have f0 := BR.out.frozen 0
      have f1 := BR.out.frozen 1
      have ql := BR.out.lt
      go_wp2
      have HBF := hid (((BR.out.set 0 (.slice none 0 0)).set 1 (.slice none 0 0)).cast (cs' := #[.slice none 0 0, .slice none 0 0]) (by simp))
      have XF := hid (Ext.put (Ext.put X.out (p := ⟨w.heap.size + 1 + 1 + 1, 0, none⟩) (by simp only; omega) (.slice none 0 0)) (p := ⟨w.heap.size + 1 + 1 + 1, 1, none⟩) (by simp only; omega) (.slice none 0 0))
      refine bodyPost_ret (results_blk2 rfl _ _ (w.heap.size + 1 + 1 + 1) 25 _ _ rfl HBF.out Tryz.underlying25 rfl (by kernel_rfl)) rfl ?_
      exact ⟨_, by rw [HV.out]; rfl, by rw [HV.out, Tb.res_no HNE.out]; exact tb0_V _, XF.out⟩
  · obtain ⟨C, hC⟩ : ∃ C, C = Tb.tbck t := ⟨_, rfl⟩
    rw [← hC] at HTC
    have HV := hid (hR.trans ((Tb.addE_bad h0).trans hC.symm))
    rw [← hC] at h0
    have HNE := hid h0
    have e1 : ((C : Int) == 0) = false := beq_eq_false_iff_ne.2 (by omega)
    have e2 : ((C : Int) != 0) = true := by simp; omega
    clear hv hb hR hC h0 hsz
    go_enter Tryz.func26, Tryz.ntmps26
    go_upto_region 1 with fail
    refine wp_gen (fun w' => Ext w w' ∧ Blk w' (w.heap.size) 25 #[.slice A n c, .slice B m d] ∧ Blk w' (w.heap.size + 1) 39 #[.string cs, .int .i64 ck] ∧ Blk w' (w.heap.size + 1 + 1) 42 #[.int .i64 xk, .int .u64 (xn : Nat), .string xs] ∧ Blk w' (w.heap.size + 1 + 1 + 1) 25 #[.slice none 0 0, .slice none 0 0]) ⟨(((((ext_refl w)).new _).new _).new _).new _, ((((Blk.new _ _ _)).alloc _).alloc _).alloc _, (((blk_at _ _ (by simp))).alloc _).alloc _, ((blk_at _ _ (by simp))).alloc _, (blk_at _ _ (by simp))⟩ ?_
    rintro wz ⟨x0, x1, x2, x3, x4⟩
    have X : Hid (Ext w wz) := hid x0
    have BT := hid x1
    have BC := hid x2
    have BX := hid x3
    have BR := hid x4
    clear x0 x1 x2 x3 x4
    have kBT0 := BT.out.cell 0
    have kBT1 := BT.out.cell 1
    go_wp2_with fail
    refine Calls.mono (HTC.out _ X.out) ?_
    rintro e w1 ⟨rfl, hx⟩
    replace X := hid (X.out.then hx)
    replace BR := hid (BR.out.keep hx)
    replace BT := hid (BT.out.keep hx)
    replace BC := hid (BC.out.keep hx)
    replace BX := hid (BX.out.keep hx)
    clear kBT0 kBT1 hx
    have q0 := BR.out.cell 0
    have q1 := BR.out.cell 1
    have f0 := BR.out.frozen 0
    have f1 := BR.out.frozen 1
    have ql := BR.out.lt
    go_wp2
    have HBF := hid (((BR.out.set 0 (.slice none 0 0)).set 1 (.slice none 0 0)).cast (cs' := #[.slice none 0 0, .slice none 0 0]) (by simp))
    have XF := hid (Ext.put (Ext.put X.out (p := ⟨w.heap.size + 1 + 1 + 1, 0, none⟩) (by simp only; omega) (.slice none 0 0)) (p := ⟨w.heap.size + 1 + 1 + 1, 1, none⟩) (by simp only; omega) (.slice none 0 0))
    refine bodyPost_ret (results_blk2 rfl _ _ (w.heap.size + 1 + 1 + 1) 25 _ _ rfl HBF.out Tryz.underlying25 rfl (by kernel_rfl)) rfl ?_
    exact ⟨_, by rw [HV.out]; rfl, by rw [HV.out, Tb.res_no HNE.out]; exact tb0_V _, XF.out⟩
end Go.Proofs.YtolhifnlahllnaaGreatDoor
