/- Tables: Add's closure: walk (printed by gen_tkl.py). -/
import Derived.Test.YtolhifnlahllnaaGreatDoorTka
import Derived.Test.YtolhifnlahllnaaGreatDoorGhx
namespace Hy.Tb
/-- what is wrong with a column more -/
def addW (t : Tab) (c : Ent) (x : Cel) : Nat := if colck c t.1 ≠ 0 then colck c t.1 else if t.1.length = 6 then 2 else Cel.alone c.2 x
end Hy.Tb
namespace Go.Proofs.YtolhifnlahllnaaGreatDoor
open Go.RowKit Hy
set_option maxHeartbeats 12800000 in
set_option maxRecDepth 100000 in
theorem addC_any (t : Tb.Tab) (cs : ByteArray) (ck xk : Int) (xn : Nat) (xs : ByteArray) (base g h1 h2 : Nat) (wx : World) (ht : TbO wx base g t) (hbw : base ≤ wx.heap.size) (hR : Tb.Right t) (hB : TbB t) (hc0 : wx.cell? ⟨h1, 0, none⟩ = some (.string cs)) (hc1 : wx.cell? ⟨h1, 1, none⟩ = some (.int .i64 ck))
    (hx0 : wx.cell? ⟨h2, 0, none⟩ = some (.int .i64 xk)) (hx1 : wx.cell? ⟨h2, 1, none⟩ = some (.int .u64 (xn : Nat))) (hx2 : wx.cell? ⟨h2, 2, none⟩ = some (.string xs)) (hb1 : h1 < base) (hg1 : h1 ≠ g) (hsz : cs.size ≤ 140737488355328) :
    Calls Tryz.prog 60 #[.pointer (some ⟨g, 0, none⟩), .pointer (some ⟨h1, 0, none⟩), .pointer (some ⟨h2, 0, none⟩)] wx fun e w' => e = .returned (.int .i64 (Tb.addW t (cs, ck) (xk, xn, xs) : Nat)) ∧ (Tb.addW t (cs, ck) (xk, xn, xs) = 0 → TbG w' base g (Tb.addT t (cs, ck) (xk, xn, xs))) ∧ Chg base g wx w' := by
  obtain ⟨A, c, B, d, L, hg, hgb, o1, o2, hL, hok, hpw⟩ := ht.parts
  obtain ⟨n, hn⟩ : ∃ n, n = t.1.length := ⟨_, rfl⟩
  obtain ⟨m, hm⟩ : ∃ n, n = t.2.length := ⟨_, rfl⟩
  have h6 := hR.six
  have hlen := hR.len
  rw [← hn] at hg o1
  rw [← hm] at hg o2
  have hv := TbV.of hn hm o1 o2 hL hok
  obtain ⟨M, hM⟩ : ∃ M, M = Tb.many t := ⟨_, rfl⟩
  have h128 := hR.lim
  have HCL := hid (fun wy (hx : Ext wx wy) => col_any cs ck t.1 A n c wy hn.symm ((own_rd o1).1.keep hx) (by omega) hsz)
  have HMT := hid (fun wy (hx : Ext wx wy) => many_any t _ wy (hv.keep hx) hB)
  have HAL := hid (fun wy => alone_any ck (xk, xn, xs) wy)
  obtain ⟨E1, hE1⟩ : ∃ E, E = Tb.colck (cs, ck) t.1 := ⟨_, rfl⟩
  obtain ⟨E2, hE2⟩ : ∃ E, E = Cel.alone ck (xk, xn, xs) := ⟨_, rfl⟩
  obtain ⟨R, hRR⟩ : ∃ R, R = Tb.addW t (cs, ck) (xk, xn, xs) := ⟨_, rfl⟩
  have HW := hid (show R = if E1 ≠ 0 then E1 else if n = 6 then 2 else E2 by rw [hRR, hE1, hE2, hn]; rfl)
  rw [← hE1] at HCL
  rw [← hE2] at HAL
  rw [← hRR]
  rw [← hM] at HMT h128
  have HREP := hid (fun (b cc : Nat) wy (hr : Rd wy (some ⟨b, 0, none⟩) (cls [(xk, xn, xs)])) => repc_any b 0 cc M (xk, xn, xs) (by omega) wy hr)
  have HG := hid hg
  have HBW := hid hbw; have HGB := hid hgb
  have HN := hid hn; have HM := hid hm; have HMM := hid hM
  have HN6 := hid (show n ≤ 6 by omega); have HM6 := hid (show m ≤ 6 by omega)
  have HO1 := hid o1; have HO2 := hid o2; have HLM := hid hL; have HOK := hid hok
  have HC0 := hid (⟨hc0, hc1⟩ : wx.cell? ⟨h1, 0, none⟩ = some (.string cs) ∧ wx.cell? ⟨h1, 1, none⟩ = some (.int .i64 ck))
  have HX0 := hid (⟨hx0, hx1, hx2⟩ : wx.cell? ⟨h2, 0, none⟩ = some (.int .i64 xk) ∧ wx.cell? ⟨h2, 1, none⟩ = some (.int .u64 (xn : Nat)) ∧ wx.cell? ⟨h2, 2, none⟩ = some (.string xs))
  have HB1 := hid (⟨hb1, hg1⟩ : h1 < base ∧ h1 ≠ g)
  have hnI : (n : Int) ≤ 6 := by omega
  have a0 := hg.cell 0
  have c0 := hc0
  have c1 := hc1
  have a0r := cell_regrown a0
  have c0r := cell_regrown c0
  have c1r := cell_regrown c1
  clear ht hR hB hg hgb hbw o1 o2 hL hok hpw hn hm hM h6 hlen hv h128 hc0 hc1 hx0 hx1 hx2 hb1 hg1 hsz hE1 hE2 hRR
  go_enter Tryz.func60, Tryz.ntmps60
  go_upto_region 1 with fail
  refine wp_region_walk [(0, true), (1, true), (2, true), (3, true), (4, true), (5, false), (6, true)] (by kernel_rfl) (by kernel_rfl) (fun _ _ _ _ _ h => h) (by kernel_rfl) (by rfl) ?_
  simp only [List.filterMap_cons, List.filterMap_nil, List.getElem?_toArray, List.getElem?_cons_zero, List.getElem?_cons_succ, Option.map_some]
  repeat (refine wpM_val (by rfl) ?_; intro K hK; go_big_quiet_op; go_big_quiet_on)
  have Y0 : Ext wx wx.drew := (ext_refl wx).draw
  refine wpM_do (by rfl) ?_
  intro K hK
  go_simp
  refine Calls.mono (HCL.out _ Y0) ?_
  rintro e w1 ⟨rfl, hx⟩
  have Y1 := Ext.then Y0 hx
  refine hK _ _ Y1 ?_
  have X0 := hid Y1
  clear K hK hx Y0 Y1 a0r c0r c1r a0 c0 c1
  repeat (refine wpM_val (by rfl) ?_; intro K hK; go_big_quiet_op; go_big_quiet_on)
  refine wpM_nil ?_
  have KEY : ∀ (wq : World), Ext wx wq → True := fun _ _ => trivial
  clear KEY
  by_cases h0 : E1 = 0
  · subst h0
    by_cases h6 : n = 6
    · have HV := hid (HW.out.trans ((if_neg (by decide)).trans (if_pos h6)))
      have e6 : ((n : Int) == 6) = true := by rw [beq_iff_eq]; omega
      have a0 := (HG.out.keep X0.out).cell 0
      clear HW h6
      have X1 := hid X0.out
      have U1 := hid (own_ext HO1.out X1.out)
      have U2 := hid (own_ext HO2.out X1.out)
      have UR := hid (fun x hx => (HOK.out x hx).ext X1.out)
      have G1 := hid (HG.out.keep X1.out)
      have HBW1 := hid (Nat.le_trans HBW.out X1.out.size)
      have CH1 := hid ((Chg.refl base g wx).ext HBW.out X1.out)
      have a0 := G1.out.cell 0
      have a1 := G1.out.cell 1
      have d0 := ext_cell X1.out HX0.out.1
      have d1 := ext_cell X1.out HX0.out.2.1
      have d2 := ext_cell X1.out HX0.out.2.2
      have a0r := cell_regrown a0
      have a1r := cell_regrown a1
      have d0r := cell_regrown d0
      have d1r := cell_regrown d1
      have d2r := cell_regrown d2
      go_upto_region 6 with fail
      refine wp_region_ltree [13, 16] [0, 14, 15] (.one 0 true (.one 1 true (.one 2 true (.one 3 true (.one 4 true (.one 5 true (.one 7 true (.one 8 true (.one 9 true (.two 6 10 (.one 10 false (.one 11 false (.one 12 false (.one 13 false (.one 14 true (.one 15 true (.one 16 false .nil))))))) (.one 6 false (.one 11 false (.one 12 false (.one 13 false (.one 14 true (.one 15 true (.one 16 false .nil))))))))))))))))) (by kernel_rfl) (by kernel_rfl) (fun _ _ _ _ _ h => h) (by kernel_rfl) (by rfl) ?_
      simp only [fillV, List.getD_cons_zero, List.getD_cons_succ, List.contains_cons, List.contains_nil, Nat.reduceBEq, Bool.or_false, Bool.or_true]
      have Y0 : Ext w1 w1.drew := (ext_refl w1).draw
      repeat ((first | refine wpV_val (by rfl) ?_ | refine wpV_pure (by rfl) ?_); intro K hK; go_big_quiet_op; go_big_quiet_on)
      generalize w1.drew = y0 at *
      refine wpV_two ?_ ?_
      · refine wpV_do (by rfl) ?_
        intro K hK
        go_simp
        have Y1 := Ext.new Y0 (.cells #[.int .i64 xk, .int .u64 (xn : Nat), .string xs] 42)
        have hrx : Rd (y0.alloc (.cells #[.int .i64 xk, .int .u64 (xn : Nat), .string xs] 42)) (some ⟨y0.heap.size, 0, none⟩) (cls [(xk, xn, xs)]) := rd_lit rfl rfl
        refine hK _ _ Y1 ?_
        clear K hK
        repeat ((first | refine wpV_val (by rfl) ?_ | refine wpV_pure (by rfl) ?_); intro K hK; go_big_quiet_op; go_big_quiet_on)
        refine wpV_do (by rfl) ?_
        intro K hK
        go_simp
        refine Calls.mono (HMT.out _ (X1.out.then Y1)) ?_
        rintro e y2 ⟨rfl, hx⟩
        have Y2 := Ext.then Y1 hx
        refine hK _ _ Y2 ?_
        clear K hK
        have HRX := hid (hrx.keep hx)
        have Z2 := hid Y2
        clear hrx hx Y0 Y1 Y2
        repeat ((first | refine wpV_val (by rfl) ?_ | refine wpV_pure (by rfl) ?_); intro K hK; go_big_quiet_op; go_big_quiet_on)
        refine wpV_do (by rfl) ?_
        intro K hK
        go_simp
        refine Calls.mono (HREP.out _ _ _ HRX.out) ?_
        rintro e y3 ⟨vr, rfl, ho, hx⟩
        obtain ⟨G, cG, rfl, _⟩ := Rd.owned ho
        have Z3 := hid (Z2.out.then hx)
        have HOR := hid (own_low' ho (Nat.le_trans HBW1.out Z2.out.size))
        have HORF := hid ho
        refine hK _ _ Z3.out ?_
        clear K hK hx ho
        repeat ((first | refine wpV_val (by rfl) ?_ | refine wpV_pure (by rfl) ?_); intro K hK; go_big_quiet_op; go_big_quiet_on)
        refine wpV_do (by rfl) ?_
        intro K hK
        go_simp
        have Z4 := hid (Ext.new Z3.out (.cells #[.slice G M cG] 45))
        have Z34 := hid (Ext.new (ext_refl y3) (.cells #[.slice G M cG] 45))
        refine hK _ _ Z4.out ?_
        clear K hK
        repeat ((first | refine wpV_val (by rfl) ?_ | refine wpV_pure (by rfl) ?_); intro K hK; go_big_quiet_op; go_big_quiet_on)
        refine wpV_late (by rfl) ?_
        intro K hK
        refine wp_app (.tmp 32) (.tmp 40) rowRo rfl _ m (rws' L) rfl (own_ext U2.out Z4.out) _ 1 (rws' [((G, M, cG), List.replicate M (xk, xn, xs))]) rfl (Src.rd Tryz.underlying23 _ 1 1 _ rfl (rd_lit (by simp) rfl) (rws_one _) (fun h => by cases h)) (by have := HM6.out; simp only [maxLen] at *; omega) (by have := HM6.out; omega) (Nat.le_trans HBW1.out Z4.out.size) ?_
        intro v' w9 hown9 hgrow hat hbel
        have E2 := own_ext U2.out Z4.out
        have HO9 := hid hown9
        have B9 := hid (Blk.grw (G1.out.keep Z4.out) hgrow (own_nblk E2 (G1.out.keep Z4.out) (by decide)))
        have T1 := hid ((own_ext U1.out Z4.out).kept hgrow (own_ne (own_ext U1.out Z4.out) E2 (by decide)))
        have TR := hid (fun x hx => World.ownsRow.kept (own_ext (UR.out x hx) Z4.out) hgrow (own_ne (own_ext (UR.out x hx) Z4.out) E2 (by decide)))
        have TN := hid ((own_ext HOR.out Z34.out).kept hgrow (own_ne (own_ext HOR.out Z34.out) E2 (by decide)))
        have CH9 := hid ((CH1.out.ext HBW1.out Z4.out).below hbel)
        have SZ9 := hid (Nat.le_trans (Nat.le_trans HBW1.out Z4.out.size) hbel.size)
        obtain ⟨A', c', rfl, _⟩ := Rd.owned hown9
        have q1 := B9.out.cell 1
        have f1 := B9.out.frozen 1
        clear hown9 hgrow hat hbel E2
        refine hK _ _ ?_
        clear K hK a0 a1 a0r a1r d0 d1 d2 d0r d1r d2r
        simp only [Act.put, List.setIfInBounds_toArray, List.set_cons_zero, List.set_cons_succ]
        repeat ((first | refine wpV_val (by rfl) ?_ | refine wpV_pure (by rfl) ?_); intro K hK; go_big_quiet_op; go_big_quiet_on)
        refine wpV_late (by rfl) ?_
        intro K hK
        go_simp
        refine hK _ _ ?_
        clear K hK
        refine wpV_nil ?_
        have B10 := hid ((B9.out.set 1 (.slice A' (m + 1) c')).cast (cs' := #[.slice A n c, .slice A' (m + 1) c']) (by simp))
        have O10 := hid (own_put HO9.out (p := ⟨g, 1, none⟩) (own_nblk HO9.out B9.out (by decide)) (.slice A' (m + 1) c'))
        have T10 := hid (own_put T1.out (p := ⟨g, 1, none⟩) (own_nblk T1.out B9.out (by decide)) (.slice A' (m + 1) c'))
        have R10 := hid (fun x hx => own_put (TR.out x hx) (p := ⟨g, 1, none⟩) (own_nblk (TR.out x hx) B9.out (by decide)) (.slice A' (m + 1) c'))
        have N10 := hid (own_put TN.out (p := ⟨g, 1, none⟩) (own_nblk TN.out B9.out (by decide)) (.slice A' (m + 1) c'))
        have CH10 := hid (CH9.out.put ⟨g, 1, none⟩ (.inl rfl) (.slice A' (m + 1) c'))
        have SZ10 := hid (show base ≤ (w9.setCell ⟨g, 1, none⟩ (.slice A' (m + 1) c')).heap.size by rw [size_put]; exact SZ9.out)
        clear q1 f1
        generalize w9.setCell ⟨g, 1, none⟩ (.slice A' (m + 1) c') = wt at *
        have a0 := B10.out.cell 0
        have c0 := CH10.out.cell HC0.out.1 HB1.out.1 HB1.out.2
        have c1 := CH10.out.cell HC0.out.2 HB1.out.1 HB1.out.2
        have a0r := cell_regrown a0
        have c0r := cell_regrown c0
        have c1r := cell_regrown c1
        go_upto_region 7 with fail
        refine wp_region_late [7, 10] [0, 8, 9] [(0, true), (1, true), (2, true), (3, true), (4, true), (5, true), (6, false), (7, false), (8, true), (9, true), (10, false)] (by kernel_rfl) (by kernel_rfl) (fun _ _ _ _ _ h => h) (by kernel_rfl) (by rfl) ?_
        simp only [List.filterMap_cons, List.filterMap_nil, List.getElem?_toArray, List.getElem?_cons_zero, List.getElem?_cons_succ, Option.map_some, List.contains_cons, List.contains_nil, Nat.reduceBEq, Bool.or_false, Bool.or_true]
        repeat ((first | refine wpL_val (by rfl) ?_ | refine wpL_pure (by rfl) ?_); intro K hK; go_big_quiet_op; go_big_quiet_on)
        refine wpL_do (by rfl) ?_
        intro K hK
        go_simp
        have J1 := hid (Ext.new (Ext.draw (ext_refl wt)) (.cells #[.string cs, .int .i64 ck] 39))
        refine hK _ _ J1.out ?_
        clear K hK
        refine wpL_late (by rfl) ?_
        intro K hK
        refine wp_app (.tmp 48) (.tmp 50) rowCo rfl _ n (ens t.1) rfl (own_ext T10.out J1.out) _ 1 (ens [(cs, ck)]) rfl (Src.rd Tryz.underlying22 _ 1 1 _ rfl (rd_lit rfl rfl) (ens_one _) (fun h => by cases h)) (by have := HN6.out; simp only [maxLen] at *; omega) (by have := HN6.out; omega) (Nat.le_trans SZ10.out J1.out.size) ?_
        intro v2 w8 hown8 hgrow hat hbel
        have E2 := own_ext T10.out J1.out
        have K9 := hid hown8
        have KB := hid (Blk.grw (B10.out.keep J1.out) hgrow (own_nblk E2 (B10.out.keep J1.out) (by decide)))
        have KO := hid ((own_ext O10.out J1.out).kept hgrow (own_ne (own_ext O10.out J1.out) E2 (by decide)))
        have KR := hid (fun x hx => World.ownsRow.kept (own_ext (R10.out x hx) J1.out) hgrow (own_ne (own_ext (R10.out x hx) J1.out) E2 (by decide)))
        have KN := hid ((own_ext N10.out J1.out).kept hgrow (own_ne (own_ext N10.out J1.out) E2 (by decide)))
        have KC := hid ((CH10.out.ext SZ10.out J1.out).below hbel)
        obtain ⟨A8, c8, rfl, _⟩ := Rd.owned hown8
        have q0 := KB.out.cell 0
        have f0 := KB.out.frozen 0
        clear hown8 hgrow hat hbel E2
        refine hK _ _ ?_
        clear K hK a0 a0r c0 c1 c0r c1r
        simp only [Act.put, List.setIfInBounds_toArray, List.set_cons_zero, List.set_cons_succ]
        repeat (refine wpL_pure (by rfl) ?_; intro K hK; go_big_quiet_op; go_big_quiet_on)
        refine wpL_late (by rfl) ?_
        intro K hK
        go_simp
        refine hK _ _ ?_
        clear K hK
        refine wpL_nil ?_
        go_wp2
        go_returns
        refine ⟨by rw [HV.out] <;> rfl, fun _ => TbG.mk' (t := Tb.addT t (cs, ck) (xk, xn, xs)) (by simp only [Tb.addT, List.length_append, List.length_cons, List.length_nil]; rw [HN.out]) (by simp only [Tb.addT, List.length_append, List.length_cons, List.length_nil]; rw [HM.out]) ((KB.out.set 0 (.slice A8 (n + 1) c8)).cast (cs' := #[.slice A8 (n + 1) c8, .slice A' (m + 1) c']) (by simp)) (by simp only [Tb.addT]; rw [ens_app]; exact own_put K9.out (p := ⟨g, 0, none⟩) (own_nblk K9.out KB.out (by decide)) _) (L := L ++ [((G, M, cG), List.replicate M (xk, xn, xs))]) (by rw [rws_app]; exact own_put KO.out (p := ⟨g, 0, none⟩) (own_nblk KO.out KB.out (by decide)) _) (by rw [List.map_append, HLM.out]; simp only [Tb.addT, ← HMM.out]; rfl) (fun x hx => ?_), KC.out.put ⟨g, 0, none⟩ (.inl rfl) _⟩
        rcases List.mem_append.1 hx with hx | hx
        · exact own_put (KR.out x hx) (p := ⟨g, 0, none⟩) (own_nblk (KR.out x hx) KB.out (by decide)) _
        · simp only [List.mem_cons, List.not_mem_nil, or_false] at hx
          subst hx
          exact own_put KN.out (p := ⟨g, 0, none⟩) (own_nblk KN.out KB.out (by decide)) _
      · refine wpV_do (by rfl) ?_
        intro K hK
        go_simp
        refine Calls.mono (HMT.out _ (X1.out.then Y0)) ?_
        rintro e y1 ⟨rfl, hx⟩
        have Y1 := Ext.then Y0 hx
        refine hK _ _ Y1 ?_
        clear K hK
        repeat ((first | refine wpV_val (by rfl) ?_ | refine wpV_pure (by rfl) ?_); intro K hK; go_big_quiet_op; go_big_quiet_on)
        refine wpV_do (by rfl) ?_
        intro K hK
        go_simp
        have Y2 := Ext.new Y1 (.cells #[.int .i64 xk, .int .u64 (xn : Nat), .string xs] 42)
        have hrx : Rd (y1.alloc (.cells #[.int .i64 xk, .int .u64 (xn : Nat), .string xs] 42)) (some ⟨y1.heap.size, 0, none⟩) (cls [(xk, xn, xs)]) := rd_lit rfl rfl
        refine hK _ _ Y2 ?_
        clear K hK
        have HRX := hid (hrx)
        have Z2 := hid Y2
        clear hrx hx Y0 Y1 Y2
        repeat ((first | refine wpV_val (by rfl) ?_ | refine wpV_pure (by rfl) ?_); intro K hK; go_big_quiet_op; go_big_quiet_on)
        refine wpV_do (by rfl) ?_
        intro K hK
        go_simp
        refine Calls.mono (HREP.out _ _ _ HRX.out) ?_
        rintro e y3 ⟨vr, rfl, ho, hx⟩
        obtain ⟨G, cG, rfl, _⟩ := Rd.owned ho
        have Z3 := hid (Z2.out.then hx)
        have HOR := hid (own_low' ho (Nat.le_trans HBW1.out Z2.out.size))
        have HORF := hid ho
        refine hK _ _ Z3.out ?_
        clear K hK hx ho
        repeat ((first | refine wpV_val (by rfl) ?_ | refine wpV_pure (by rfl) ?_); intro K hK; go_big_quiet_op; go_big_quiet_on)
        refine wpV_do (by rfl) ?_
        intro K hK
        go_simp
        have Z4 := hid (Ext.new Z3.out (.cells #[.slice G M cG] 45))
        have Z34 := hid (Ext.new (ext_refl y3) (.cells #[.slice G M cG] 45))
        refine hK _ _ Z4.out ?_
        clear K hK
        repeat ((first | refine wpV_val (by rfl) ?_ | refine wpV_pure (by rfl) ?_); intro K hK; go_big_quiet_op; go_big_quiet_on)
        refine wpV_late (by rfl) ?_
        intro K hK
        refine wp_app (.tmp 32) (.tmp 40) rowRo rfl _ m (rws' L) rfl (own_ext U2.out Z4.out) _ 1 (rws' [((G, M, cG), List.replicate M (xk, xn, xs))]) rfl (Src.rd Tryz.underlying23 _ 1 1 _ rfl (rd_lit (by simp) rfl) (rws_one _) (fun h => by cases h)) (by have := HM6.out; simp only [maxLen] at *; omega) (by have := HM6.out; omega) (Nat.le_trans HBW1.out Z4.out.size) ?_
        intro v' w9 hown9 hgrow hat hbel
        have E2 := own_ext U2.out Z4.out
        have HO9 := hid hown9
        have B9 := hid (Blk.grw (G1.out.keep Z4.out) hgrow (own_nblk E2 (G1.out.keep Z4.out) (by decide)))
        have T1 := hid ((own_ext U1.out Z4.out).kept hgrow (own_ne (own_ext U1.out Z4.out) E2 (by decide)))
        have TR := hid (fun x hx => World.ownsRow.kept (own_ext (UR.out x hx) Z4.out) hgrow (own_ne (own_ext (UR.out x hx) Z4.out) E2 (by decide)))
        have TN := hid ((own_ext HOR.out Z34.out).kept hgrow (own_ne (own_ext HOR.out Z34.out) E2 (by decide)))
        have CH9 := hid ((CH1.out.ext HBW1.out Z4.out).below hbel)
        have SZ9 := hid (Nat.le_trans (Nat.le_trans HBW1.out Z4.out.size) hbel.size)
        obtain ⟨A', c', rfl, _⟩ := Rd.owned hown9
        have q1 := B9.out.cell 1
        have f1 := B9.out.frozen 1
        clear hown9 hgrow hat hbel E2
        refine hK _ _ ?_
        clear K hK a0 a1 a0r a1r d0 d1 d2 d0r d1r d2r
        simp only [Act.put, List.setIfInBounds_toArray, List.set_cons_zero, List.set_cons_succ]
        repeat ((first | refine wpV_val (by rfl) ?_ | refine wpV_pure (by rfl) ?_); intro K hK; go_big_quiet_op; go_big_quiet_on)
        refine wpV_late (by rfl) ?_
        intro K hK
        go_simp
        refine hK _ _ ?_
        clear K hK
        refine wpV_nil ?_
        have B10 := hid ((B9.out.set 1 (.slice A' (m + 1) c')).cast (cs' := #[.slice A n c, .slice A' (m + 1) c']) (by simp))
        have O10 := hid (own_put HO9.out (p := ⟨g, 1, none⟩) (own_nblk HO9.out B9.out (by decide)) (.slice A' (m + 1) c'))
        have T10 := hid (own_put T1.out (p := ⟨g, 1, none⟩) (own_nblk T1.out B9.out (by decide)) (.slice A' (m + 1) c'))
        have R10 := hid (fun x hx => own_put (TR.out x hx) (p := ⟨g, 1, none⟩) (own_nblk (TR.out x hx) B9.out (by decide)) (.slice A' (m + 1) c'))
        have N10 := hid (own_put TN.out (p := ⟨g, 1, none⟩) (own_nblk TN.out B9.out (by decide)) (.slice A' (m + 1) c'))
        have CH10 := hid (CH9.out.put ⟨g, 1, none⟩ (.inl rfl) (.slice A' (m + 1) c'))
        have SZ10 := hid (show base ≤ (w9.setCell ⟨g, 1, none⟩ (.slice A' (m + 1) c')).heap.size by rw [size_put]; exact SZ9.out)
        clear q1 f1
        generalize w9.setCell ⟨g, 1, none⟩ (.slice A' (m + 1) c') = wt at *
        have a0 := B10.out.cell 0
        have c0 := CH10.out.cell HC0.out.1 HB1.out.1 HB1.out.2
        have c1 := CH10.out.cell HC0.out.2 HB1.out.1 HB1.out.2
        have a0r := cell_regrown a0
        have c0r := cell_regrown c0
        have c1r := cell_regrown c1
        go_upto_region 7 with fail
        refine wp_region_late [7, 10] [0, 8, 9] [(0, true), (1, true), (2, true), (3, true), (4, true), (5, true), (6, false), (7, false), (8, true), (9, true), (10, false)] (by kernel_rfl) (by kernel_rfl) (fun _ _ _ _ _ h => h) (by kernel_rfl) (by rfl) ?_
        simp only [List.filterMap_cons, List.filterMap_nil, List.getElem?_toArray, List.getElem?_cons_zero, List.getElem?_cons_succ, Option.map_some, List.contains_cons, List.contains_nil, Nat.reduceBEq, Bool.or_false, Bool.or_true]
        repeat ((first | refine wpL_val (by rfl) ?_ | refine wpL_pure (by rfl) ?_); intro K hK; go_big_quiet_op; go_big_quiet_on)
        refine wpL_do (by rfl) ?_
        intro K hK
        go_simp
        have J1 := hid (Ext.new (Ext.draw (ext_refl wt)) (.cells #[.string cs, .int .i64 ck] 39))
        refine hK _ _ J1.out ?_
        clear K hK
        refine wpL_late (by rfl) ?_
        intro K hK
        refine wp_app (.tmp 48) (.tmp 50) rowCo rfl _ n (ens t.1) rfl (own_ext T10.out J1.out) _ 1 (ens [(cs, ck)]) rfl (Src.rd Tryz.underlying22 _ 1 1 _ rfl (rd_lit rfl rfl) (ens_one _) (fun h => by cases h)) (by have := HN6.out; simp only [maxLen] at *; omega) (by have := HN6.out; omega) (Nat.le_trans SZ10.out J1.out.size) ?_
        intro v2 w8 hown8 hgrow hat hbel
        have E2 := own_ext T10.out J1.out
        have K9 := hid hown8
        have KB := hid (Blk.grw (B10.out.keep J1.out) hgrow (own_nblk E2 (B10.out.keep J1.out) (by decide)))
        have KO := hid ((own_ext O10.out J1.out).kept hgrow (own_ne (own_ext O10.out J1.out) E2 (by decide)))
        have KR := hid (fun x hx => World.ownsRow.kept (own_ext (R10.out x hx) J1.out) hgrow (own_ne (own_ext (R10.out x hx) J1.out) E2 (by decide)))
        have KN := hid ((own_ext N10.out J1.out).kept hgrow (own_ne (own_ext N10.out J1.out) E2 (by decide)))
        have KC := hid ((CH10.out.ext SZ10.out J1.out).below hbel)
        obtain ⟨A8, c8, rfl, _⟩ := Rd.owned hown8
        have q0 := KB.out.cell 0
        have f0 := KB.out.frozen 0
        clear hown8 hgrow hat hbel E2
        refine hK _ _ ?_
        clear K hK a0 a0r c0 c1 c0r c1r
        simp only [Act.put, List.setIfInBounds_toArray, List.set_cons_zero, List.set_cons_succ]
        repeat (refine wpL_pure (by rfl) ?_; intro K hK; go_big_quiet_op; go_big_quiet_on)
        refine wpL_late (by rfl) ?_
        intro K hK
        go_simp
        refine hK _ _ ?_
        clear K hK
        refine wpL_nil ?_
        go_wp2
        go_returns
        refine ⟨by rw [HV.out] <;> rfl, fun _ => TbG.mk' (t := Tb.addT t (cs, ck) (xk, xn, xs)) (by simp only [Tb.addT, List.length_append, List.length_cons, List.length_nil]; rw [HN.out]) (by simp only [Tb.addT, List.length_append, List.length_cons, List.length_nil]; rw [HM.out]) ((KB.out.set 0 (.slice A8 (n + 1) c8)).cast (cs' := #[.slice A8 (n + 1) c8, .slice A' (m + 1) c']) (by simp)) (by simp only [Tb.addT]; rw [ens_app]; exact own_put K9.out (p := ⟨g, 0, none⟩) (own_nblk K9.out KB.out (by decide)) _) (L := L ++ [((G, M, cG), List.replicate M (xk, xn, xs))]) (by rw [rws_app]; exact own_put KO.out (p := ⟨g, 0, none⟩) (own_nblk KO.out KB.out (by decide)) _) (by rw [List.map_append, HLM.out]; simp only [Tb.addT, ← HMM.out]; rfl) (fun x hx => ?_), KC.out.put ⟨g, 0, none⟩ (.inl rfl) _⟩
        rcases List.mem_append.1 hx with hx | hx
        · exact own_put (KR.out x hx) (p := ⟨g, 0, none⟩) (own_nblk (KR.out x hx) KB.out (by decide)) _
        · simp only [List.mem_cons, List.not_mem_nil, or_false] at hx
          subst hx
          exact own_put KN.out (p := ⟨g, 0, none⟩) (own_nblk KN.out KB.out (by decide)) _
    · have HV := hid (HW.out.trans ((if_neg (by decide)).trans (if_neg h6)))
      have e6 : ((n : Int) == 6) = false := by rw [beq_eq_false_iff_ne]; omega
      have a0 := (HG.out.keep X0.out).cell 0
      have c1 := ext_cell X0.out HC0.out.2
      have d0 := ext_cell X0.out HX0.out.1
      have d1 := ext_cell X0.out HX0.out.2.1
      have d2 := ext_cell X0.out HX0.out.2.2
      clear HW h6
      go_wp2_with fail
      refine Calls.mono (HAL.out _) ?_
      rintro e w2 ⟨rfl, hx⟩
      have X2 := hid (X0.out.then hx)
      clear hx a0 c1 d0 d1 d2
      have X1 := hid X2.out
      have U1 := hid (own_ext HO1.out X1.out)
      have U2 := hid (own_ext HO2.out X1.out)
      have UR := hid (fun x hx => (HOK.out x hx).ext X1.out)
      have G1 := hid (HG.out.keep X1.out)
      have HBW1 := hid (Nat.le_trans HBW.out X1.out.size)
      have CH1 := hid ((Chg.refl base g wx).ext HBW.out X1.out)
      have a0 := G1.out.cell 0
      have a1 := G1.out.cell 1
      have d0 := ext_cell X1.out HX0.out.1
      have d1 := ext_cell X1.out HX0.out.2.1
      have d2 := ext_cell X1.out HX0.out.2.2
      have a0r := cell_regrown a0
      have a1r := cell_regrown a1
      have d0r := cell_regrown d0
      have d1r := cell_regrown d1
      have d2r := cell_regrown d2
      go_upto_region 6 with fail
      refine wp_region_ltree [13, 16] [0, 14, 15] (.one 0 true (.one 1 true (.one 2 true (.one 3 true (.one 4 true (.one 5 true (.one 7 true (.one 8 true (.one 9 true (.two 6 10 (.one 10 false (.one 11 false (.one 12 false (.one 13 false (.one 14 true (.one 15 true (.one 16 false .nil))))))) (.one 6 false (.one 11 false (.one 12 false (.one 13 false (.one 14 true (.one 15 true (.one 16 false .nil))))))))))))))))) (by kernel_rfl) (by kernel_rfl) (fun _ _ _ _ _ h => h) (by kernel_rfl) (by rfl) ?_
      simp only [fillV, List.getD_cons_zero, List.getD_cons_succ, List.contains_cons, List.contains_nil, Nat.reduceBEq, Bool.or_false, Bool.or_true]
      have Y0 : Ext w2 w2.drew := (ext_refl w2).draw
      repeat ((first | refine wpV_val (by rfl) ?_ | refine wpV_pure (by rfl) ?_); intro K hK; go_big_quiet_op; go_big_quiet_on)
      generalize w2.drew = y0 at *
      refine wpV_two ?_ ?_
      · refine wpV_do (by rfl) ?_
        intro K hK
        go_simp
        have Y1 := Ext.new Y0 (.cells #[.int .i64 xk, .int .u64 (xn : Nat), .string xs] 42)
        have hrx : Rd (y0.alloc (.cells #[.int .i64 xk, .int .u64 (xn : Nat), .string xs] 42)) (some ⟨y0.heap.size, 0, none⟩) (cls [(xk, xn, xs)]) := rd_lit rfl rfl
        refine hK _ _ Y1 ?_
        clear K hK
        repeat ((first | refine wpV_val (by rfl) ?_ | refine wpV_pure (by rfl) ?_); intro K hK; go_big_quiet_op; go_big_quiet_on)
        refine wpV_do (by rfl) ?_
        intro K hK
        go_simp
        refine Calls.mono (HMT.out _ (X1.out.then Y1)) ?_
        rintro e y2 ⟨rfl, hx⟩
        have Y2 := Ext.then Y1 hx
        refine hK _ _ Y2 ?_
        clear K hK
        have HRX := hid (hrx.keep hx)
        have Z2 := hid Y2
        clear hrx hx Y0 Y1 Y2
        repeat ((first | refine wpV_val (by rfl) ?_ | refine wpV_pure (by rfl) ?_); intro K hK; go_big_quiet_op; go_big_quiet_on)
        refine wpV_do (by rfl) ?_
        intro K hK
        go_simp
        refine Calls.mono (HREP.out _ _ _ HRX.out) ?_
        rintro e y3 ⟨vr, rfl, ho, hx⟩
        obtain ⟨G, cG, rfl, _⟩ := Rd.owned ho
        have Z3 := hid (Z2.out.then hx)
        have HOR := hid (own_low' ho (Nat.le_trans HBW1.out Z2.out.size))
        have HORF := hid ho
        refine hK _ _ Z3.out ?_
        clear K hK hx ho
        repeat ((first | refine wpV_val (by rfl) ?_ | refine wpV_pure (by rfl) ?_); intro K hK; go_big_quiet_op; go_big_quiet_on)
        refine wpV_do (by rfl) ?_
        intro K hK
        go_simp
        have Z4 := hid (Ext.new Z3.out (.cells #[.slice G M cG] 45))
        have Z34 := hid (Ext.new (ext_refl y3) (.cells #[.slice G M cG] 45))
        refine hK _ _ Z4.out ?_
        clear K hK
        repeat ((first | refine wpV_val (by rfl) ?_ | refine wpV_pure (by rfl) ?_); intro K hK; go_big_quiet_op; go_big_quiet_on)
        refine wpV_late (by rfl) ?_
        intro K hK
        refine wp_app (.tmp 32) (.tmp 40) rowRo rfl _ m (rws' L) rfl (own_ext U2.out Z4.out) _ 1 (rws' [((G, M, cG), List.replicate M (xk, xn, xs))]) rfl (Src.rd Tryz.underlying23 _ 1 1 _ rfl (rd_lit (by simp) rfl) (rws_one _) (fun h => by cases h)) (by have := HM6.out; simp only [maxLen] at *; omega) (by have := HM6.out; omega) (Nat.le_trans HBW1.out Z4.out.size) ?_
        intro v' w9 hown9 hgrow hat hbel
        have E2 := own_ext U2.out Z4.out
        have HO9 := hid hown9
        have B9 := hid (Blk.grw (G1.out.keep Z4.out) hgrow (own_nblk E2 (G1.out.keep Z4.out) (by decide)))
        have T1 := hid ((own_ext U1.out Z4.out).kept hgrow (own_ne (own_ext U1.out Z4.out) E2 (by decide)))
        have TR := hid (fun x hx => World.ownsRow.kept (own_ext (UR.out x hx) Z4.out) hgrow (own_ne (own_ext (UR.out x hx) Z4.out) E2 (by decide)))
        have TN := hid ((own_ext HOR.out Z34.out).kept hgrow (own_ne (own_ext HOR.out Z34.out) E2 (by decide)))
        have CH9 := hid ((CH1.out.ext HBW1.out Z4.out).below hbel)
        have SZ9 := hid (Nat.le_trans (Nat.le_trans HBW1.out Z4.out.size) hbel.size)
        obtain ⟨A', c', rfl, _⟩ := Rd.owned hown9
        have q1 := B9.out.cell 1
        have f1 := B9.out.frozen 1
        clear hown9 hgrow hat hbel E2
        refine hK _ _ ?_
        clear K hK a0 a1 a0r a1r d0 d1 d2 d0r d1r d2r
        simp only [Act.put, List.setIfInBounds_toArray, List.set_cons_zero, List.set_cons_succ]
        repeat ((first | refine wpV_val (by rfl) ?_ | refine wpV_pure (by rfl) ?_); intro K hK; go_big_quiet_op; go_big_quiet_on)
        refine wpV_late (by rfl) ?_
        intro K hK
        go_simp
        refine hK _ _ ?_
        clear K hK
        refine wpV_nil ?_
        have B10 := hid ((B9.out.set 1 (.slice A' (m + 1) c')).cast (cs' := #[.slice A n c, .slice A' (m + 1) c']) (by simp))
        have O10 := hid (own_put HO9.out (p := ⟨g, 1, none⟩) (own_nblk HO9.out B9.out (by decide)) (.slice A' (m + 1) c'))
        have T10 := hid (own_put T1.out (p := ⟨g, 1, none⟩) (own_nblk T1.out B9.out (by decide)) (.slice A' (m + 1) c'))
        have R10 := hid (fun x hx => own_put (TR.out x hx) (p := ⟨g, 1, none⟩) (own_nblk (TR.out x hx) B9.out (by decide)) (.slice A' (m + 1) c'))
        have N10 := hid (own_put TN.out (p := ⟨g, 1, none⟩) (own_nblk TN.out B9.out (by decide)) (.slice A' (m + 1) c'))
        have CH10 := hid (CH9.out.put ⟨g, 1, none⟩ (.inl rfl) (.slice A' (m + 1) c'))
        have SZ10 := hid (show base ≤ (w9.setCell ⟨g, 1, none⟩ (.slice A' (m + 1) c')).heap.size by rw [size_put]; exact SZ9.out)
        clear q1 f1
        generalize w9.setCell ⟨g, 1, none⟩ (.slice A' (m + 1) c') = wt at *
        have a0 := B10.out.cell 0
        have c0 := CH10.out.cell HC0.out.1 HB1.out.1 HB1.out.2
        have c1 := CH10.out.cell HC0.out.2 HB1.out.1 HB1.out.2
        have a0r := cell_regrown a0
        have c0r := cell_regrown c0
        have c1r := cell_regrown c1
        go_upto_region 7 with fail
        refine wp_region_late [7, 10] [0, 8, 9] [(0, true), (1, true), (2, true), (3, true), (4, true), (5, true), (6, false), (7, false), (8, true), (9, true), (10, false)] (by kernel_rfl) (by kernel_rfl) (fun _ _ _ _ _ h => h) (by kernel_rfl) (by rfl) ?_
        simp only [List.filterMap_cons, List.filterMap_nil, List.getElem?_toArray, List.getElem?_cons_zero, List.getElem?_cons_succ, Option.map_some, List.contains_cons, List.contains_nil, Nat.reduceBEq, Bool.or_false, Bool.or_true]
        repeat ((first | refine wpL_val (by rfl) ?_ | refine wpL_pure (by rfl) ?_); intro K hK; go_big_quiet_op; go_big_quiet_on)
        refine wpL_do (by rfl) ?_
        intro K hK
        go_simp
        have J1 := hid (Ext.new (Ext.draw (ext_refl wt)) (.cells #[.string cs, .int .i64 ck] 39))
        refine hK _ _ J1.out ?_
        clear K hK
        refine wpL_late (by rfl) ?_
        intro K hK
        refine wp_app (.tmp 48) (.tmp 50) rowCo rfl _ n (ens t.1) rfl (own_ext T10.out J1.out) _ 1 (ens [(cs, ck)]) rfl (Src.rd Tryz.underlying22 _ 1 1 _ rfl (rd_lit rfl rfl) (ens_one _) (fun h => by cases h)) (by have := HN6.out; simp only [maxLen] at *; omega) (by have := HN6.out; omega) (Nat.le_trans SZ10.out J1.out.size) ?_
        intro v2 w8 hown8 hgrow hat hbel
        have E2 := own_ext T10.out J1.out
        have K9 := hid hown8
        have KB := hid (Blk.grw (B10.out.keep J1.out) hgrow (own_nblk E2 (B10.out.keep J1.out) (by decide)))
        have KO := hid ((own_ext O10.out J1.out).kept hgrow (own_ne (own_ext O10.out J1.out) E2 (by decide)))
        have KR := hid (fun x hx => World.ownsRow.kept (own_ext (R10.out x hx) J1.out) hgrow (own_ne (own_ext (R10.out x hx) J1.out) E2 (by decide)))
        have KN := hid ((own_ext N10.out J1.out).kept hgrow (own_ne (own_ext N10.out J1.out) E2 (by decide)))
        have KC := hid ((CH10.out.ext SZ10.out J1.out).below hbel)
        obtain ⟨A8, c8, rfl, _⟩ := Rd.owned hown8
        have q0 := KB.out.cell 0
        have f0 := KB.out.frozen 0
        clear hown8 hgrow hat hbel E2
        refine hK _ _ ?_
        clear K hK a0 a0r c0 c1 c0r c1r
        simp only [Act.put, List.setIfInBounds_toArray, List.set_cons_zero, List.set_cons_succ]
        repeat (refine wpL_pure (by rfl) ?_; intro K hK; go_big_quiet_op; go_big_quiet_on)
        refine wpL_late (by rfl) ?_
        intro K hK
        go_simp
        refine hK _ _ ?_
        clear K hK
        refine wpL_nil ?_
        go_wp2
        go_returns
        refine ⟨by rw [HV.out] <;> rfl, fun _ => TbG.mk' (t := Tb.addT t (cs, ck) (xk, xn, xs)) (by simp only [Tb.addT, List.length_append, List.length_cons, List.length_nil]; rw [HN.out]) (by simp only [Tb.addT, List.length_append, List.length_cons, List.length_nil]; rw [HM.out]) ((KB.out.set 0 (.slice A8 (n + 1) c8)).cast (cs' := #[.slice A8 (n + 1) c8, .slice A' (m + 1) c']) (by simp)) (by simp only [Tb.addT]; rw [ens_app]; exact own_put K9.out (p := ⟨g, 0, none⟩) (own_nblk K9.out KB.out (by decide)) _) (L := L ++ [((G, M, cG), List.replicate M (xk, xn, xs))]) (by rw [rws_app]; exact own_put KO.out (p := ⟨g, 0, none⟩) (own_nblk KO.out KB.out (by decide)) _) (by rw [List.map_append, HLM.out]; simp only [Tb.addT, ← HMM.out]; rfl) (fun x hx => ?_), KC.out.put ⟨g, 0, none⟩ (.inl rfl) _⟩
        rcases List.mem_append.1 hx with hx | hx
        · exact own_put (KR.out x hx) (p := ⟨g, 0, none⟩) (own_nblk (KR.out x hx) KB.out (by decide)) _
        · simp only [List.mem_cons, List.not_mem_nil, or_false] at hx
          subst hx
          exact own_put KN.out (p := ⟨g, 0, none⟩) (own_nblk KN.out KB.out (by decide)) _
      · refine wpV_do (by rfl) ?_
        intro K hK
        go_simp
        refine Calls.mono (HMT.out _ (X1.out.then Y0)) ?_
        rintro e y1 ⟨rfl, hx⟩
        have Y1 := Ext.then Y0 hx
        refine hK _ _ Y1 ?_
        clear K hK
        repeat ((first | refine wpV_val (by rfl) ?_ | refine wpV_pure (by rfl) ?_); intro K hK; go_big_quiet_op; go_big_quiet_on)
        refine wpV_do (by rfl) ?_
        intro K hK
        go_simp
        have Y2 := Ext.new Y1 (.cells #[.int .i64 xk, .int .u64 (xn : Nat), .string xs] 42)
        have hrx : Rd (y1.alloc (.cells #[.int .i64 xk, .int .u64 (xn : Nat), .string xs] 42)) (some ⟨y1.heap.size, 0, none⟩) (cls [(xk, xn, xs)]) := rd_lit rfl rfl
        refine hK _ _ Y2 ?_
        clear K hK
        have HRX := hid (hrx)
        have Z2 := hid Y2
        clear hrx hx Y0 Y1 Y2
        repeat ((first | refine wpV_val (by rfl) ?_ | refine wpV_pure (by rfl) ?_); intro K hK; go_big_quiet_op; go_big_quiet_on)
        refine wpV_do (by rfl) ?_
        intro K hK
        go_simp
        refine Calls.mono (HREP.out _ _ _ HRX.out) ?_
        rintro e y3 ⟨vr, rfl, ho, hx⟩
        obtain ⟨G, cG, rfl, _⟩ := Rd.owned ho
        have Z3 := hid (Z2.out.then hx)
        have HOR := hid (own_low' ho (Nat.le_trans HBW1.out Z2.out.size))
        have HORF := hid ho
        refine hK _ _ Z3.out ?_
        clear K hK hx ho
        repeat ((first | refine wpV_val (by rfl) ?_ | refine wpV_pure (by rfl) ?_); intro K hK; go_big_quiet_op; go_big_quiet_on)
        refine wpV_do (by rfl) ?_
        intro K hK
        go_simp
        have Z4 := hid (Ext.new Z3.out (.cells #[.slice G M cG] 45))
        have Z34 := hid (Ext.new (ext_refl y3) (.cells #[.slice G M cG] 45))
        refine hK _ _ Z4.out ?_
        clear K hK
        repeat ((first | refine wpV_val (by rfl) ?_ | refine wpV_pure (by rfl) ?_); intro K hK; go_big_quiet_op; go_big_quiet_on)
        refine wpV_late (by rfl) ?_
        intro K hK
        refine wp_app (.tmp 32) (.tmp 40) rowRo rfl _ m (rws' L) rfl (own_ext U2.out Z4.out) _ 1 (rws' [((G, M, cG), List.replicate M (xk, xn, xs))]) rfl (Src.rd Tryz.underlying23 _ 1 1 _ rfl (rd_lit (by simp) rfl) (rws_one _) (fun h => by cases h)) (by have := HM6.out; simp only [maxLen] at *; omega) (by have := HM6.out; omega) (Nat.le_trans HBW1.out Z4.out.size) ?_
        intro v' w9 hown9 hgrow hat hbel
        have E2 := own_ext U2.out Z4.out
        have HO9 := hid hown9
        have B9 := hid (Blk.grw (G1.out.keep Z4.out) hgrow (own_nblk E2 (G1.out.keep Z4.out) (by decide)))
        have T1 := hid ((own_ext U1.out Z4.out).kept hgrow (own_ne (own_ext U1.out Z4.out) E2 (by decide)))
        have TR := hid (fun x hx => World.ownsRow.kept (own_ext (UR.out x hx) Z4.out) hgrow (own_ne (own_ext (UR.out x hx) Z4.out) E2 (by decide)))
        have TN := hid ((own_ext HOR.out Z34.out).kept hgrow (own_ne (own_ext HOR.out Z34.out) E2 (by decide)))
        have CH9 := hid ((CH1.out.ext HBW1.out Z4.out).below hbel)
        have SZ9 := hid (Nat.le_trans (Nat.le_trans HBW1.out Z4.out.size) hbel.size)
        obtain ⟨A', c', rfl, _⟩ := Rd.owned hown9
        have q1 := B9.out.cell 1
        have f1 := B9.out.frozen 1
        clear hown9 hgrow hat hbel E2
        refine hK _ _ ?_
        clear K hK a0 a1 a0r a1r d0 d1 d2 d0r d1r d2r
        simp only [Act.put, List.setIfInBounds_toArray, List.set_cons_zero, List.set_cons_succ]
        repeat ((first | refine wpV_val (by rfl) ?_ | refine wpV_pure (by rfl) ?_); intro K hK; go_big_quiet_op; go_big_quiet_on)
        refine wpV_late (by rfl) ?_
        intro K hK
        go_simp
        refine hK _ _ ?_
        clear K hK
        refine wpV_nil ?_
        have B10 := hid ((B9.out.set 1 (.slice A' (m + 1) c')).cast (cs' := #[.slice A n c, .slice A' (m + 1) c']) (by simp))
        have O10 := hid (own_put HO9.out (p := ⟨g, 1, none⟩) (own_nblk HO9.out B9.out (by decide)) (.slice A' (m + 1) c'))
        have T10 := hid (own_put T1.out (p := ⟨g, 1, none⟩) (own_nblk T1.out B9.out (by decide)) (.slice A' (m + 1) c'))
        have R10 := hid (fun x hx => own_put (TR.out x hx) (p := ⟨g, 1, none⟩) (own_nblk (TR.out x hx) B9.out (by decide)) (.slice A' (m + 1) c'))
        have N10 := hid (own_put TN.out (p := ⟨g, 1, none⟩) (own_nblk TN.out B9.out (by decide)) (.slice A' (m + 1) c'))
        have CH10 := hid (CH9.out.put ⟨g, 1, none⟩ (.inl rfl) (.slice A' (m + 1) c'))
        have SZ10 := hid (show base ≤ (w9.setCell ⟨g, 1, none⟩ (.slice A' (m + 1) c')).heap.size by rw [size_put]; exact SZ9.out)
        clear q1 f1
        generalize w9.setCell ⟨g, 1, none⟩ (.slice A' (m + 1) c') = wt at *
        have a0 := B10.out.cell 0
        have c0 := CH10.out.cell HC0.out.1 HB1.out.1 HB1.out.2
        have c1 := CH10.out.cell HC0.out.2 HB1.out.1 HB1.out.2
        have a0r := cell_regrown a0
        have c0r := cell_regrown c0
        have c1r := cell_regrown c1
        go_upto_region 7 with fail
        refine wp_region_late [7, 10] [0, 8, 9] [(0, true), (1, true), (2, true), (3, true), (4, true), (5, true), (6, false), (7, false), (8, true), (9, true), (10, false)] (by kernel_rfl) (by kernel_rfl) (fun _ _ _ _ _ h => h) (by kernel_rfl) (by rfl) ?_
        simp only [List.filterMap_cons, List.filterMap_nil, List.getElem?_toArray, List.getElem?_cons_zero, List.getElem?_cons_succ, Option.map_some, List.contains_cons, List.contains_nil, Nat.reduceBEq, Bool.or_false, Bool.or_true]
        repeat ((first | refine wpL_val (by rfl) ?_ | refine wpL_pure (by rfl) ?_); intro K hK; go_big_quiet_op; go_big_quiet_on)
        refine wpL_do (by rfl) ?_
        intro K hK
        go_simp
        have J1 := hid (Ext.new (Ext.draw (ext_refl wt)) (.cells #[.string cs, .int .i64 ck] 39))
        refine hK _ _ J1.out ?_
        clear K hK
        refine wpL_late (by rfl) ?_
        intro K hK
        refine wp_app (.tmp 48) (.tmp 50) rowCo rfl _ n (ens t.1) rfl (own_ext T10.out J1.out) _ 1 (ens [(cs, ck)]) rfl (Src.rd Tryz.underlying22 _ 1 1 _ rfl (rd_lit rfl rfl) (ens_one _) (fun h => by cases h)) (by have := HN6.out; simp only [maxLen] at *; omega) (by have := HN6.out; omega) (Nat.le_trans SZ10.out J1.out.size) ?_
        intro v2 w8 hown8 hgrow hat hbel
        have E2 := own_ext T10.out J1.out
        have K9 := hid hown8
        have KB := hid (Blk.grw (B10.out.keep J1.out) hgrow (own_nblk E2 (B10.out.keep J1.out) (by decide)))
        have KO := hid ((own_ext O10.out J1.out).kept hgrow (own_ne (own_ext O10.out J1.out) E2 (by decide)))
        have KR := hid (fun x hx => World.ownsRow.kept (own_ext (R10.out x hx) J1.out) hgrow (own_ne (own_ext (R10.out x hx) J1.out) E2 (by decide)))
        have KN := hid ((own_ext N10.out J1.out).kept hgrow (own_ne (own_ext N10.out J1.out) E2 (by decide)))
        have KC := hid ((CH10.out.ext SZ10.out J1.out).below hbel)
        obtain ⟨A8, c8, rfl, _⟩ := Rd.owned hown8
        have q0 := KB.out.cell 0
        have f0 := KB.out.frozen 0
        clear hown8 hgrow hat hbel E2
        refine hK _ _ ?_
        clear K hK a0 a0r c0 c1 c0r c1r
        simp only [Act.put, List.setIfInBounds_toArray, List.set_cons_zero, List.set_cons_succ]
        repeat (refine wpL_pure (by rfl) ?_; intro K hK; go_big_quiet_op; go_big_quiet_on)
        refine wpL_late (by rfl) ?_
        intro K hK
        go_simp
        refine hK _ _ ?_
        clear K hK
        refine wpL_nil ?_
        go_wp2
        go_returns
        refine ⟨by rw [HV.out] <;> rfl, fun _ => TbG.mk' (t := Tb.addT t (cs, ck) (xk, xn, xs)) (by simp only [Tb.addT, List.length_append, List.length_cons, List.length_nil]; rw [HN.out]) (by simp only [Tb.addT, List.length_append, List.length_cons, List.length_nil]; rw [HM.out]) ((KB.out.set 0 (.slice A8 (n + 1) c8)).cast (cs' := #[.slice A8 (n + 1) c8, .slice A' (m + 1) c']) (by simp)) (by simp only [Tb.addT]; rw [ens_app]; exact own_put K9.out (p := ⟨g, 0, none⟩) (own_nblk K9.out KB.out (by decide)) _) (L := L ++ [((G, M, cG), List.replicate M (xk, xn, xs))]) (by rw [rws_app]; exact own_put KO.out (p := ⟨g, 0, none⟩) (own_nblk KO.out KB.out (by decide)) _) (by rw [List.map_append, HLM.out]; simp only [Tb.addT, ← HMM.out]; rfl) (fun x hx => ?_), KC.out.put ⟨g, 0, none⟩ (.inl rfl) _⟩
        rcases List.mem_append.1 hx with hx | hx
        · exact own_put (KR.out x hx) (p := ⟨g, 0, none⟩) (own_nblk (KR.out x hx) KB.out (by decide)) _
        · simp only [List.mem_cons, List.not_mem_nil, or_false] at hx
          subst hx
          exact own_put KN.out (p := ⟨g, 0, none⟩) (own_nblk KN.out KB.out (by decide)) _
  · have HV := hid (HW.out.trans (if_pos h0))
    have e1 : ((E1 : Int) == 0) = false := beq_eq_false_iff_ne.2 (by omega)
    have e2 : ((E1 : Int) != 0) = true := by simp; omega
    have a0 := (HG.out.keep X0.out).cell 0
    clear HW h0
    have X1 := hid X0.out
    have U1 := hid (own_ext HO1.out X1.out)
    have U2 := hid (own_ext HO2.out X1.out)
    have UR := hid (fun x hx => (HOK.out x hx).ext X1.out)
    have G1 := hid (HG.out.keep X1.out)
    have HBW1 := hid (Nat.le_trans HBW.out X1.out.size)
    have CH1 := hid ((Chg.refl base g wx).ext HBW.out X1.out)
    have a0 := G1.out.cell 0
    have a1 := G1.out.cell 1
    have d0 := ext_cell X1.out HX0.out.1
    have d1 := ext_cell X1.out HX0.out.2.1
    have d2 := ext_cell X1.out HX0.out.2.2
    have a0r := cell_regrown a0
    have a1r := cell_regrown a1
    have d0r := cell_regrown d0
    have d1r := cell_regrown d1
    have d2r := cell_regrown d2
    go_upto_region 6 with fail
    refine wp_region_ltree [13, 16] [0, 14, 15] (.one 0 true (.one 1 true (.one 2 true (.one 3 true (.one 4 true (.one 5 true (.one 7 true (.one 8 true (.one 9 true (.two 6 10 (.one 10 false (.one 11 false (.one 12 false (.one 13 false (.one 14 true (.one 15 true (.one 16 false .nil))))))) (.one 6 false (.one 11 false (.one 12 false (.one 13 false (.one 14 true (.one 15 true (.one 16 false .nil))))))))))))))))) (by kernel_rfl) (by kernel_rfl) (fun _ _ _ _ _ h => h) (by kernel_rfl) (by rfl) ?_
    simp only [fillV, List.getD_cons_zero, List.getD_cons_succ, List.contains_cons, List.contains_nil, Nat.reduceBEq, Bool.or_false, Bool.or_true]
    have Y0 : Ext w1 w1.drew := (ext_refl w1).draw
    repeat ((first | refine wpV_val (by rfl) ?_ | refine wpV_pure (by rfl) ?_); intro K hK; go_big_quiet_op; go_big_quiet_on)
    generalize w1.drew = y0 at *
    refine wpV_two ?_ ?_
    · refine wpV_do (by rfl) ?_
      intro K hK
      go_simp
      have Y1 := Ext.new Y0 (.cells #[.int .i64 xk, .int .u64 (xn : Nat), .string xs] 42)
      have hrx : Rd (y0.alloc (.cells #[.int .i64 xk, .int .u64 (xn : Nat), .string xs] 42)) (some ⟨y0.heap.size, 0, none⟩) (cls [(xk, xn, xs)]) := rd_lit rfl rfl
      refine hK _ _ Y1 ?_
      clear K hK
      repeat ((first | refine wpV_val (by rfl) ?_ | refine wpV_pure (by rfl) ?_); intro K hK; go_big_quiet_op; go_big_quiet_on)
      refine wpV_do (by rfl) ?_
      intro K hK
      go_simp
      refine Calls.mono (HMT.out _ (X1.out.then Y1)) ?_
      rintro e y2 ⟨rfl, hx⟩
      have Y2 := Ext.then Y1 hx
      refine hK _ _ Y2 ?_
      clear K hK
      have HRX := hid (hrx.keep hx)
      have Z2 := hid Y2
      clear hrx hx Y0 Y1 Y2
      repeat ((first | refine wpV_val (by rfl) ?_ | refine wpV_pure (by rfl) ?_); intro K hK; go_big_quiet_op; go_big_quiet_on)
      refine wpV_do (by rfl) ?_
      intro K hK
      go_simp
      refine Calls.mono (HREP.out _ _ _ HRX.out) ?_
      rintro e y3 ⟨vr, rfl, ho, hx⟩
      obtain ⟨G, cG, rfl, _⟩ := Rd.owned ho
      have Z3 := hid (Z2.out.then hx)
      have HOR := hid (own_low' ho (Nat.le_trans HBW1.out Z2.out.size))
      have HORF := hid ho
      refine hK _ _ Z3.out ?_
      clear K hK hx ho
      repeat ((first | refine wpV_val (by rfl) ?_ | refine wpV_pure (by rfl) ?_); intro K hK; go_big_quiet_op; go_big_quiet_on)
      refine wpV_do (by rfl) ?_
      intro K hK
      go_simp
      have Z4 := hid (Ext.new Z3.out (.cells #[.slice G M cG] 45))
      have Z34 := hid (Ext.new (ext_refl y3) (.cells #[.slice G M cG] 45))
      refine hK _ _ Z4.out ?_
      clear K hK
      repeat ((first | refine wpV_val (by rfl) ?_ | refine wpV_pure (by rfl) ?_); intro K hK; go_big_quiet_op; go_big_quiet_on)
      refine wpV_late (by rfl) ?_
      intro K hK
      refine wp_app (.tmp 32) (.tmp 40) rowRo rfl _ m (rws' L) rfl (own_ext U2.out Z4.out) _ 1 (rws' [((G, M, cG), List.replicate M (xk, xn, xs))]) rfl (Src.rd Tryz.underlying23 _ 1 1 _ rfl (rd_lit (by simp) rfl) (rws_one _) (fun h => by cases h)) (by have := HM6.out; simp only [maxLen] at *; omega) (by have := HM6.out; omega) (Nat.le_trans HBW1.out Z4.out.size) ?_
      intro v' w9 hown9 hgrow hat hbel
      have E2 := own_ext U2.out Z4.out
      have HO9 := hid hown9
      have B9 := hid (Blk.grw (G1.out.keep Z4.out) hgrow (own_nblk E2 (G1.out.keep Z4.out) (by decide)))
      have T1 := hid ((own_ext U1.out Z4.out).kept hgrow (own_ne (own_ext U1.out Z4.out) E2 (by decide)))
      have TR := hid (fun x hx => World.ownsRow.kept (own_ext (UR.out x hx) Z4.out) hgrow (own_ne (own_ext (UR.out x hx) Z4.out) E2 (by decide)))
      have TN := hid ((own_ext HOR.out Z34.out).kept hgrow (own_ne (own_ext HOR.out Z34.out) E2 (by decide)))
      have CH9 := hid ((CH1.out.ext HBW1.out Z4.out).below hbel)
      have SZ9 := hid (Nat.le_trans (Nat.le_trans HBW1.out Z4.out.size) hbel.size)
      obtain ⟨A', c', rfl, _⟩ := Rd.owned hown9
      have q1 := B9.out.cell 1
      have f1 := B9.out.frozen 1
      clear hown9 hgrow hat hbel E2
      refine hK _ _ ?_
      clear K hK a0 a1 a0r a1r d0 d1 d2 d0r d1r d2r
      simp only [Act.put, List.setIfInBounds_toArray, List.set_cons_zero, List.set_cons_succ]
      repeat ((first | refine wpV_val (by rfl) ?_ | refine wpV_pure (by rfl) ?_); intro K hK; go_big_quiet_op; go_big_quiet_on)
      refine wpV_late (by rfl) ?_
      intro K hK
      go_simp
      refine hK _ _ ?_
      clear K hK
      refine wpV_nil ?_
      have B10 := hid ((B9.out.set 1 (.slice A' (m + 1) c')).cast (cs' := #[.slice A n c, .slice A' (m + 1) c']) (by simp))
      have O10 := hid (own_put HO9.out (p := ⟨g, 1, none⟩) (own_nblk HO9.out B9.out (by decide)) (.slice A' (m + 1) c'))
      have T10 := hid (own_put T1.out (p := ⟨g, 1, none⟩) (own_nblk T1.out B9.out (by decide)) (.slice A' (m + 1) c'))
      have R10 := hid (fun x hx => own_put (TR.out x hx) (p := ⟨g, 1, none⟩) (own_nblk (TR.out x hx) B9.out (by decide)) (.slice A' (m + 1) c'))
      have N10 := hid (own_put TN.out (p := ⟨g, 1, none⟩) (own_nblk TN.out B9.out (by decide)) (.slice A' (m + 1) c'))
      have CH10 := hid (CH9.out.put ⟨g, 1, none⟩ (.inl rfl) (.slice A' (m + 1) c'))
      have SZ10 := hid (show base ≤ (w9.setCell ⟨g, 1, none⟩ (.slice A' (m + 1) c')).heap.size by rw [size_put]; exact SZ9.out)
      clear q1 f1
      generalize w9.setCell ⟨g, 1, none⟩ (.slice A' (m + 1) c') = wt at *
      have a0 := B10.out.cell 0
      have c0 := CH10.out.cell HC0.out.1 HB1.out.1 HB1.out.2
      have c1 := CH10.out.cell HC0.out.2 HB1.out.1 HB1.out.2
      have a0r := cell_regrown a0
      have c0r := cell_regrown c0
      have c1r := cell_regrown c1
      go_upto_region 7 with fail
      refine wp_region_late [7, 10] [0, 8, 9] [(0, true), (1, true), (2, true), (3, true), (4, true), (5, true), (6, false), (7, false), (8, true), (9, true), (10, false)] (by kernel_rfl) (by kernel_rfl) (fun _ _ _ _ _ h => h) (by kernel_rfl) (by rfl) ?_
      simp only [List.filterMap_cons, List.filterMap_nil, List.getElem?_toArray, List.getElem?_cons_zero, List.getElem?_cons_succ, Option.map_some, List.contains_cons, List.contains_nil, Nat.reduceBEq, Bool.or_false, Bool.or_true]
      repeat ((first | refine wpL_val (by rfl) ?_ | refine wpL_pure (by rfl) ?_); intro K hK; go_big_quiet_op; go_big_quiet_on)
      refine wpL_do (by rfl) ?_
      intro K hK
      go_simp
      have J1 := hid (Ext.new (Ext.draw (ext_refl wt)) (.cells #[.string cs, .int .i64 ck] 39))
      refine hK _ _ J1.out ?_
      clear K hK
      refine wpL_late (by rfl) ?_
      intro K hK
      refine wp_app (.tmp 48) (.tmp 50) rowCo rfl _ n (ens t.1) rfl (own_ext T10.out J1.out) _ 1 (ens [(cs, ck)]) rfl (Src.rd Tryz.underlying22 _ 1 1 _ rfl (rd_lit rfl rfl) (ens_one _) (fun h => by cases h)) (by have := HN6.out; simp only [maxLen] at *; omega) (by have := HN6.out; omega) (Nat.le_trans SZ10.out J1.out.size) ?_
      intro v2 w8 hown8 hgrow hat hbel
      have E2 := own_ext T10.out J1.out
      have K9 := hid hown8
      have KB := hid (Blk.grw (B10.out.keep J1.out) hgrow (own_nblk E2 (B10.out.keep J1.out) (by decide)))
      have KO := hid ((own_ext O10.out J1.out).kept hgrow (own_ne (own_ext O10.out J1.out) E2 (by decide)))
      have KR := hid (fun x hx => World.ownsRow.kept (own_ext (R10.out x hx) J1.out) hgrow (own_ne (own_ext (R10.out x hx) J1.out) E2 (by decide)))
      have KN := hid ((own_ext N10.out J1.out).kept hgrow (own_ne (own_ext N10.out J1.out) E2 (by decide)))
      have KC := hid ((CH10.out.ext SZ10.out J1.out).below hbel)
      obtain ⟨A8, c8, rfl, _⟩ := Rd.owned hown8
      have q0 := KB.out.cell 0
      have f0 := KB.out.frozen 0
      clear hown8 hgrow hat hbel E2
      refine hK _ _ ?_
      clear K hK a0 a0r c0 c1 c0r c1r
      simp only [Act.put, List.setIfInBounds_toArray, List.set_cons_zero, List.set_cons_succ]
      repeat (refine wpL_pure (by rfl) ?_; intro K hK; go_big_quiet_op; go_big_quiet_on)
      refine wpL_late (by rfl) ?_
      intro K hK
      go_simp
      refine hK _ _ ?_
      clear K hK
      refine wpL_nil ?_
      go_wp2
      go_returns
      refine ⟨by rw [HV.out] <;> rfl, fun _ => TbG.mk' (t := Tb.addT t (cs, ck) (xk, xn, xs)) (by simp only [Tb.addT, List.length_append, List.length_cons, List.length_nil]; rw [HN.out]) (by simp only [Tb.addT, List.length_append, List.length_cons, List.length_nil]; rw [HM.out]) ((KB.out.set 0 (.slice A8 (n + 1) c8)).cast (cs' := #[.slice A8 (n + 1) c8, .slice A' (m + 1) c']) (by simp)) (by simp only [Tb.addT]; rw [ens_app]; exact own_put K9.out (p := ⟨g, 0, none⟩) (own_nblk K9.out KB.out (by decide)) _) (L := L ++ [((G, M, cG), List.replicate M (xk, xn, xs))]) (by rw [rws_app]; exact own_put KO.out (p := ⟨g, 0, none⟩) (own_nblk KO.out KB.out (by decide)) _) (by rw [List.map_append, HLM.out]; simp only [Tb.addT, ← HMM.out]; rfl) (fun x hx => ?_), KC.out.put ⟨g, 0, none⟩ (.inl rfl) _⟩
      rcases List.mem_append.1 hx with hx | hx
      · exact own_put (KR.out x hx) (p := ⟨g, 0, none⟩) (own_nblk (KR.out x hx) KB.out (by decide)) _
      · simp only [List.mem_cons, List.not_mem_nil, or_false] at hx
        subst hx
        exact own_put KN.out (p := ⟨g, 0, none⟩) (own_nblk KN.out KB.out (by decide)) _
    · refine wpV_do (by rfl) ?_
      intro K hK
      go_simp
      refine Calls.mono (HMT.out _ (X1.out.then Y0)) ?_
      rintro e y1 ⟨rfl, hx⟩
      have Y1 := Ext.then Y0 hx
      refine hK _ _ Y1 ?_
      clear K hK
      repeat ((first | refine wpV_val (by rfl) ?_ | refine wpV_pure (by rfl) ?_); intro K hK; go_big_quiet_op; go_big_quiet_on)
      refine wpV_do (by rfl) ?_
      intro K hK
      go_simp
      have Y2 := Ext.new Y1 (.cells #[.int .i64 xk, .int .u64 (xn : Nat), .string xs] 42)
      have hrx : Rd (y1.alloc (.cells #[.int .i64 xk, .int .u64 (xn : Nat), .string xs] 42)) (some ⟨y1.heap.size, 0, none⟩) (cls [(xk, xn, xs)]) := rd_lit rfl rfl
      refine hK _ _ Y2 ?_
      clear K hK
      have HRX := hid (hrx)
      have Z2 := hid Y2
      clear hrx hx Y0 Y1 Y2
      repeat ((first | refine wpV_val (by rfl) ?_ | refine wpV_pure (by rfl) ?_); intro K hK; go_big_quiet_op; go_big_quiet_on)
      refine wpV_do (by rfl) ?_
      intro K hK
      go_simp
      refine Calls.mono (HREP.out _ _ _ HRX.out) ?_
      rintro e y3 ⟨vr, rfl, ho, hx⟩
      obtain ⟨G, cG, rfl, _⟩ := Rd.owned ho
      have Z3 := hid (Z2.out.then hx)
      have HOR := hid (own_low' ho (Nat.le_trans HBW1.out Z2.out.size))
      have HORF := hid ho
      refine hK _ _ Z3.out ?_
      clear K hK hx ho
      repeat ((first | refine wpV_val (by rfl) ?_ | refine wpV_pure (by rfl) ?_); intro K hK; go_big_quiet_op; go_big_quiet_on)
      refine wpV_do (by rfl) ?_
      intro K hK
      go_simp
      have Z4 := hid (Ext.new Z3.out (.cells #[.slice G M cG] 45))
      have Z34 := hid (Ext.new (ext_refl y3) (.cells #[.slice G M cG] 45))
      refine hK _ _ Z4.out ?_
      clear K hK
      repeat ((first | refine wpV_val (by rfl) ?_ | refine wpV_pure (by rfl) ?_); intro K hK; go_big_quiet_op; go_big_quiet_on)
      refine wpV_late (by rfl) ?_
      intro K hK
      refine wp_app (.tmp 32) (.tmp 40) rowRo rfl _ m (rws' L) rfl (own_ext U2.out Z4.out) _ 1 (rws' [((G, M, cG), List.replicate M (xk, xn, xs))]) rfl (Src.rd Tryz.underlying23 _ 1 1 _ rfl (rd_lit (by simp) rfl) (rws_one _) (fun h => by cases h)) (by have := HM6.out; simp only [maxLen] at *; omega) (by have := HM6.out; omega) (Nat.le_trans HBW1.out Z4.out.size) ?_
      intro v' w9 hown9 hgrow hat hbel
      have E2 := own_ext U2.out Z4.out
      have HO9 := hid hown9
      have B9 := hid (Blk.grw (G1.out.keep Z4.out) hgrow (own_nblk E2 (G1.out.keep Z4.out) (by decide)))
      have T1 := hid ((own_ext U1.out Z4.out).kept hgrow (own_ne (own_ext U1.out Z4.out) E2 (by decide)))
      have TR := hid (fun x hx => World.ownsRow.kept (own_ext (UR.out x hx) Z4.out) hgrow (own_ne (own_ext (UR.out x hx) Z4.out) E2 (by decide)))
      have TN := hid ((own_ext HOR.out Z34.out).kept hgrow (own_ne (own_ext HOR.out Z34.out) E2 (by decide)))
      have CH9 := hid ((CH1.out.ext HBW1.out Z4.out).below hbel)
      have SZ9 := hid (Nat.le_trans (Nat.le_trans HBW1.out Z4.out.size) hbel.size)
      obtain ⟨A', c', rfl, _⟩ := Rd.owned hown9
      have q1 := B9.out.cell 1
      have f1 := B9.out.frozen 1
      clear hown9 hgrow hat hbel E2
      refine hK _ _ ?_
      clear K hK a0 a1 a0r a1r d0 d1 d2 d0r d1r d2r
      simp only [Act.put, List.setIfInBounds_toArray, List.set_cons_zero, List.set_cons_succ]
      repeat ((first | refine wpV_val (by rfl) ?_ | refine wpV_pure (by rfl) ?_); intro K hK; go_big_quiet_op; go_big_quiet_on)
      refine wpV_late (by rfl) ?_
      intro K hK
      go_simp
      refine hK _ _ ?_
      clear K hK
      refine wpV_nil ?_
      have B10 := hid ((B9.out.set 1 (.slice A' (m + 1) c')).cast (cs' := #[.slice A n c, .slice A' (m + 1) c']) (by simp))
      have O10 := hid (own_put HO9.out (p := ⟨g, 1, none⟩) (own_nblk HO9.out B9.out (by decide)) (.slice A' (m + 1) c'))
      have T10 := hid (own_put T1.out (p := ⟨g, 1, none⟩) (own_nblk T1.out B9.out (by decide)) (.slice A' (m + 1) c'))
      have R10 := hid (fun x hx => own_put (TR.out x hx) (p := ⟨g, 1, none⟩) (own_nblk (TR.out x hx) B9.out (by decide)) (.slice A' (m + 1) c'))
      have N10 := hid (own_put TN.out (p := ⟨g, 1, none⟩) (own_nblk TN.out B9.out (by decide)) (.slice A' (m + 1) c'))
      have CH10 := hid (CH9.out.put ⟨g, 1, none⟩ (.inl rfl) (.slice A' (m + 1) c'))
      have SZ10 := hid (show base ≤ (w9.setCell ⟨g, 1, none⟩ (.slice A' (m + 1) c')).heap.size by rw [size_put]; exact SZ9.out)
      clear q1 f1
      generalize w9.setCell ⟨g, 1, none⟩ (.slice A' (m + 1) c') = wt at *
      have a0 := B10.out.cell 0
      have c0 := CH10.out.cell HC0.out.1 HB1.out.1 HB1.out.2
      have c1 := CH10.out.cell HC0.out.2 HB1.out.1 HB1.out.2
      have a0r := cell_regrown a0
      have c0r := cell_regrown c0
      have c1r := cell_regrown c1
      go_upto_region 7 with fail
      refine wp_region_late [7, 10] [0, 8, 9] [(0, true), (1, true), (2, true), (3, true), (4, true), (5, true), (6, false), (7, false), (8, true), (9, true), (10, false)] (by kernel_rfl) (by kernel_rfl) (fun _ _ _ _ _ h => h) (by kernel_rfl) (by rfl) ?_
      simp only [List.filterMap_cons, List.filterMap_nil, List.getElem?_toArray, List.getElem?_cons_zero, List.getElem?_cons_succ, Option.map_some, List.contains_cons, List.contains_nil, Nat.reduceBEq, Bool.or_false, Bool.or_true]
      repeat ((first | refine wpL_val (by rfl) ?_ | refine wpL_pure (by rfl) ?_); intro K hK; go_big_quiet_op; go_big_quiet_on)
      refine wpL_do (by rfl) ?_
      intro K hK
      go_simp
      have J1 := hid (Ext.new (Ext.draw (ext_refl wt)) (.cells #[.string cs, .int .i64 ck] 39))
      refine hK _ _ J1.out ?_
      clear K hK
      refine wpL_late (by rfl) ?_
      intro K hK
      refine wp_app (.tmp 48) (.tmp 50) rowCo rfl _ n (ens t.1) rfl (own_ext T10.out J1.out) _ 1 (ens [(cs, ck)]) rfl (Src.rd Tryz.underlying22 _ 1 1 _ rfl (rd_lit rfl rfl) (ens_one _) (fun h => by cases h)) (by have := HN6.out; simp only [maxLen] at *; omega) (by have := HN6.out; omega) (Nat.le_trans SZ10.out J1.out.size) ?_
      intro v2 w8 hown8 hgrow hat hbel
      have E2 := own_ext T10.out J1.out
      have K9 := hid hown8
      have KB := hid (Blk.grw (B10.out.keep J1.out) hgrow (own_nblk E2 (B10.out.keep J1.out) (by decide)))
      have KO := hid ((own_ext O10.out J1.out).kept hgrow (own_ne (own_ext O10.out J1.out) E2 (by decide)))
      have KR := hid (fun x hx => World.ownsRow.kept (own_ext (R10.out x hx) J1.out) hgrow (own_ne (own_ext (R10.out x hx) J1.out) E2 (by decide)))
      have KN := hid ((own_ext N10.out J1.out).kept hgrow (own_ne (own_ext N10.out J1.out) E2 (by decide)))
      have KC := hid ((CH10.out.ext SZ10.out J1.out).below hbel)
      obtain ⟨A8, c8, rfl, _⟩ := Rd.owned hown8
      have q0 := KB.out.cell 0
      have f0 := KB.out.frozen 0
      clear hown8 hgrow hat hbel E2
      refine hK _ _ ?_
      clear K hK a0 a0r c0 c1 c0r c1r
      simp only [Act.put, List.setIfInBounds_toArray, List.set_cons_zero, List.set_cons_succ]
      repeat (refine wpL_pure (by rfl) ?_; intro K hK; go_big_quiet_op; go_big_quiet_on)
      refine wpL_late (by rfl) ?_
      intro K hK
      go_simp
      refine hK _ _ ?_
      clear K hK
      refine wpL_nil ?_
      go_wp2
      go_returns
      refine ⟨by rw [HV.out] <;> rfl, fun _ => TbG.mk' (t := Tb.addT t (cs, ck) (xk, xn, xs)) (by simp only [Tb.addT, List.length_append, List.length_cons, List.length_nil]; rw [HN.out]) (by simp only [Tb.addT, List.length_append, List.length_cons, List.length_nil]; rw [HM.out]) ((KB.out.set 0 (.slice A8 (n + 1) c8)).cast (cs' := #[.slice A8 (n + 1) c8, .slice A' (m + 1) c']) (by simp)) (by simp only [Tb.addT]; rw [ens_app]; exact own_put K9.out (p := ⟨g, 0, none⟩) (own_nblk K9.out KB.out (by decide)) _) (L := L ++ [((G, M, cG), List.replicate M (xk, xn, xs))]) (by rw [rws_app]; exact own_put KO.out (p := ⟨g, 0, none⟩) (own_nblk KO.out KB.out (by decide)) _) (by rw [List.map_append, HLM.out]; simp only [Tb.addT, ← HMM.out]; rfl) (fun x hx => ?_), KC.out.put ⟨g, 0, none⟩ (.inl rfl) _⟩
      rcases List.mem_append.1 hx with hx | hx
      · exact own_put (KR.out x hx) (p := ⟨g, 0, none⟩) (own_nblk (KR.out x hx) KB.out (by decide)) _
      · simp only [List.mem_cons, List.not_mem_nil, or_false] at hx
        subst hx
        exact own_put KN.out (p := ⟨g, 0, none⟩) (own_nblk KN.out KB.out (by decide)) _
end Go.Proofs.YtolhifnlahllnaaGreatDoor
