/- Patch: the document's CostOf: walk. -/
import Derived.Test.YtdblegdbfdhepaaPae
namespace Go.Proofs.Ytdblegdbfdhepaa
open Go.RowKit Hy
set_option maxRecDepth 100000 in
set_option maxHeartbeats 1000000 in
theorem costOf_any (l : List Nat) (A : Option Addr) (n cap wd : Nat) (w : World) (hn : l.length = n) (hr : Rd w A (u64s l)) (hl : ∀ x ∈ l, x < 18446744073709551616) (hnl : n ≤ 64) (hwd : wd ≤ 64) :
    Calls Try.prog 33 #[.slice A n cap, .int .i64 wd] w fun e w' => e = .returned (.int .i64 (Pat.cst (Pat.mor l) wd : Nat)) ∧ Ext w w' := by
  obtain ⟨p, hp⟩ : ∃ p, p = n * wd := ⟨_, rfl⟩
  have hmul : (n : Int) * (wd : Int) = (p : Int) := by rw [hp]; simp
  have hpb : p ≤ 64 * 64 := by rw [hp]; exact Nat.mul_le_mul hnl hwd
  have hpI : (p : Int) ≤ 4096 := by omega
  obtain ⟨z, hz⟩ : ∃ z, z = Bits.size n wd := ⟨_, rfl⟩
  have hz2 : z = (p + 7) / 8 := by rw [hz, hp]; rfl
  have hnI : (n : Int) ≤ 64 := by omega
  have hwI : (wd : Int) ≤ 64 := by omega
  have HV := hid (show Pat.cst (Pat.mor l) wd = z + Pat.xt wd (Pat.mor l) by unfold Pat.cst; rw [Pat.mor_len, hn, hz])
  rw [HV.out]
  obtain ⟨q, hq⟩ : ∃ q, q = p / 8 := ⟨_, rfl⟩
  have hq1 : (p : Int) / 8 = (q : Int) := by omega
  have hq2 : (p : Int).tdiv 8 = (q : Int) := by rw [Int.tdiv_eq_ediv_of_nonneg (by omega)]; omega
  have hqI : (q : Int) ≤ 512 := by omega
  have hzI : (z : Int) ≤ 513 := by omega
  have CB := hid (fun wx (hx : Ext w wx) => baseOf_any l A n cap wx hn (hr.keep hx) hl hnl)
  have hb := Pat.bas_lt l hl
  have HLE := hid (Pat.bas_le l)
  have HMOR := hid (show Pat.mor l = l.map (· - Pat.bas l) from rfl)
  obtain ⟨b, hbb⟩ : ∃ b, b = Pat.bas l := ⟨_, rfl⟩
  rw [← hbb] at CB hb HLE HMOR
  have hbI : (b : Int) ≤ 18446744073709551615 := by omega
  have HR := hid hr
  have HN := hid hn
  have HL := hid hl
  have HNL := hid hnl
  have HWD := hid hwd
  rcases Nat.eq_zero_or_pos (p % 8) with h8 | h8
  · have h8I : (p : Int) % 8 = 0 := by omega
    have h8t : (p : Int).tmod 8 = 0 := by rw [Int.tmod_eq_emod_of_nonneg (by omega)]; omega
    have HZQ := hid (show z = q by omega)
    clear hr hn hl hnl hp hpb hz hz2 hwd hb hbb hq h8
    go_enter Try.func33, Try.ntmps33
    go_wp2
    go_loopw [5, 6, 7] (fun t c _ wr => ∃ i : Nat, i ≤ n ∧ c = .int .i64 i ∧ t = .int .i64 ((z + Pat.xt wd ((l.take i).map (· - b)) : Nat) : Int) ∧ Ext w wr) (fun _ c _ _ => n - (intOf c).toNat)
    case atStart => exact ⟨0, Nat.zero_le _, rfl, by rw [HZQ.out]; rfl, ext_refl _⟩
    case round =>
      obtain ⟨i, hi, rfl, rfl, X⟩ := hrel
      have hx1 := Pat.xt_le wd ((l.take i).map (· - b))
      have hti : ((l.take i).map (· - b)).length = i := by rw [List.length_map, List.length_take, HN.out]; omega
      rw [hti] at hx1
      by_cases hlt : i < n
      · have hltI : (i : Int) < (n : Int) := by omega
        obtain ⟨x, hx⟩ : ∃ x, l[i]? = some x := ⟨_, List.getElem?_eq_getElem (by rw [HN.out]; exact hlt)⟩
        have hxl := HL.out x (List.mem_of_getElem? hx)
        have hbx := HLE.out x (List.mem_of_getElem? hx)
        obtain ⟨b1, o1, rfl, l1, c1⟩ := HR.out.num00 (by rw [HN.out]; omega)
        have d0 := (X.cell (p := ⟨b1, o1 + i, none⟩) l1).trans (c1 i x hx)
        have HS := hid (show Pat.xt wd ((l.take (i + 1)).map (· - b)) = Pat.xt wd ((l.take i).map (· - b)) + Pat.one wd (x - b) by
          rw [take_succ_snoc' hx, List.map_append]; exact Pat.xt_snoc wd _ _)
        obtain ⟨y, hy⟩ : ∃ y, y = x - b := ⟨_, rfl⟩
        rw [← hy] at HS
        have hyl : y < 18446744073709551616 := by omega
        have CF := hid (fun wx => fits_any y wd wx hyl (by have := HWD.out; omega))
        have CW := hid (fun wx => varyBytes_any y wx hyl)
        have hsub : (x : Int) - (b : Int) = (y : Int) := by omega
        have hxI : (x : Int) ≤ 18446744073709551615 := by omega
        have hyI : (y : Int) ≤ 18446744073709551615 := by omega
        have hwy : IntKind.u64.wrap (y : Int) = (y : Int) := by rw [IntKind.wrap_u64]; omega
        generalize Pat.xt wd ((l.take i).map (· - b)) = acc at *
        have haI : (acc : Int) ≤ 640 := by have := HNL.out; omega
        have ha0 : (0 : Int) ≤ (acc : Int) := by omega
        have HX := hid X
        have d0r := cell_regrown d0
        by_cases ho : wd < Lib.bitLen y
        · rw [Bits.fitsB_false ho] at CF
          obtain ⟨S, hS⟩ : ∃ S : ByteArray, S = ⟨(Vary.wr y).toArray⟩ := ⟨_, rfl⟩
          have hSs : S.size = (Vary.wr y).length := by rw [hS, str_size]
          have hS9 : (S.size : Int) ≤ 9 := by rw [hSs, Vary.wr_len]; have := Vary.beh_le8 y; omega
          have HO := hid (show Pat.one wd y = 1 + S.size by unfold Pat.one; rw [if_pos ho, hSs])
          rw [← hS] at CW
          clear c1 hx hxl hbx hy hyl ho hS hSs hx1 hti X
          go_wp2
          refine wp_region_walk [(0, true), (1, true), (2, true), (3, true), (4, true), (5, false), (6, true), (7, true)] (by kernel_rfl) (by kernel_rfl) (fun _ _ _ _ _ h => h) (by kernel_rfl) (by rfl) ?_
          simp only [List.filterMap_cons, List.filterMap_nil, List.getElem?_toArray, List.getElem?_cons_zero, List.getElem?_cons_succ, Option.map_some]
          repeat (refine wpM_val (by rfl) ?_; intro K hK; go_big_quiet_op; go_big_quiet_on)
          have HY1 : Hid (Ext wr wr.drew) := hid (Ext.draw (ext_refl wr))
          refine wpM_do (by rfl) ?_
          intro K hK
          go_simp
          refine Calls.mono (CB.out _ (HX.out.then HY1.out)) ?_
          rintro e _ ⟨rfl, rfl⟩
          refine hK _ _ HY1.out ?_
          clear K hK
          repeat (refine wpM_val (by rfl) ?_; intro K hK; go_big_quiet_op; go_big_quiet_on)
          refine wpM_nil ?_
          go_wp2_with fail
          refine Calls.mono (CF.out _) ?_
          rintro e _ ⟨rfl, rfl⟩
          go_wp2_with fail
          refine Calls.mono (CW.out _) ?_
          rintro e w2 ⟨rfl, hx⟩
          have X2 := hid ((HX.out.then HY1.out).then hx)
          clear hx
          go_wp2
          go_roundw
          case rel => exact ⟨i + 1, by omega, by go_num, by rw [HS.out, HO.out]; go_num, X2.out⟩
          case measure => simp [intOf]; omega
        · rw [Bits.fitsB_true (by omega)] at CF
          have HO := hid (show Pat.one wd y = 0 by unfold Pat.one; rw [if_neg ho])
          clear c1 hx hxl hbx hy hyl ho hx1 hti X
          go_wp2
          refine wp_region_walk [(0, true), (1, true), (2, true), (3, true), (4, true), (5, false), (6, true), (7, true)] (by kernel_rfl) (by kernel_rfl) (fun _ _ _ _ _ h => h) (by kernel_rfl) (by rfl) ?_
          simp only [List.filterMap_cons, List.filterMap_nil, List.getElem?_toArray, List.getElem?_cons_zero, List.getElem?_cons_succ, Option.map_some]
          repeat (refine wpM_val (by rfl) ?_; intro K hK; go_big_quiet_op; go_big_quiet_on)
          have HY1 : Hid (Ext wr wr.drew) := hid (Ext.draw (ext_refl wr))
          refine wpM_do (by rfl) ?_
          intro K hK
          go_simp
          refine Calls.mono (CB.out _ (HX.out.then HY1.out)) ?_
          rintro e _ ⟨rfl, rfl⟩
          refine hK _ _ HY1.out ?_
          clear K hK
          repeat (refine wpM_val (by rfl) ?_; intro K hK; go_big_quiet_op; go_big_quiet_on)
          refine wpM_nil ?_
          go_wp2_with fail
          refine Calls.mono (CF.out _) ?_
          rintro e _ ⟨rfl, rfl⟩
          have X2 := hid (HX.out.then HY1.out)
          go_wp2
          go_roundw
          case rel => exact ⟨i + 1, by omega, by go_num, by rw [HS.out, HO.out]; go_num, X2.out⟩
          case measure => simp [intOf]; omega
      · obtain rfl : i = n := by omega
        have htl : l.take i = l := List.take_of_length_le (by rw [HN.out]; exact Nat.le_refl _)
        rw [htl, ← HMOR.out]
        clear hx1 hti htl
        go_wp2
        go_returns
        exact ⟨rfl, X⟩
  · have h8I : (0 : Int) < (p : Int) % 8 := by omega
    have h8t : (0 : Int) < (p : Int).tmod 8 := by rw [Int.tmod_eq_emod_of_nonneg (by omega)]; omega
    have HZQ := hid (show z = q + 1 by omega)
    clear hr hn hl hnl hp hpb hz hz2 hwd hb hbb hq h8
    go_enter Try.func33, Try.ntmps33
    go_wp2
    go_loopw [5, 6, 7] (fun t c _ wr => ∃ i : Nat, i ≤ n ∧ c = .int .i64 i ∧ t = .int .i64 ((z + Pat.xt wd ((l.take i).map (· - b)) : Nat) : Int) ∧ Ext w wr) (fun _ c _ _ => n - (intOf c).toNat)
    case atStart => exact ⟨0, Nat.zero_le _, rfl, by rw [HZQ.out]; rfl, ext_refl _⟩
    case round =>
      obtain ⟨i, hi, rfl, rfl, X⟩ := hrel
      have hx1 := Pat.xt_le wd ((l.take i).map (· - b))
      have hti : ((l.take i).map (· - b)).length = i := by rw [List.length_map, List.length_take, HN.out]; omega
      rw [hti] at hx1
      by_cases hlt : i < n
      · have hltI : (i : Int) < (n : Int) := by omega
        obtain ⟨x, hx⟩ : ∃ x, l[i]? = some x := ⟨_, List.getElem?_eq_getElem (by rw [HN.out]; exact hlt)⟩
        have hxl := HL.out x (List.mem_of_getElem? hx)
        have hbx := HLE.out x (List.mem_of_getElem? hx)
        obtain ⟨b1, o1, rfl, l1, c1⟩ := HR.out.num00 (by rw [HN.out]; omega)
        have d0 := (X.cell (p := ⟨b1, o1 + i, none⟩) l1).trans (c1 i x hx)
        have HS := hid (show Pat.xt wd ((l.take (i + 1)).map (· - b)) = Pat.xt wd ((l.take i).map (· - b)) + Pat.one wd (x - b) by
          rw [take_succ_snoc' hx, List.map_append]; exact Pat.xt_snoc wd _ _)
        obtain ⟨y, hy⟩ : ∃ y, y = x - b := ⟨_, rfl⟩
        rw [← hy] at HS
        have hyl : y < 18446744073709551616 := by omega
        have CF := hid (fun wx => fits_any y wd wx hyl (by have := HWD.out; omega))
        have CW := hid (fun wx => varyBytes_any y wx hyl)
        have hsub : (x : Int) - (b : Int) = (y : Int) := by omega
        have hxI : (x : Int) ≤ 18446744073709551615 := by omega
        have hyI : (y : Int) ≤ 18446744073709551615 := by omega
        have hwy : IntKind.u64.wrap (y : Int) = (y : Int) := by rw [IntKind.wrap_u64]; omega
        generalize Pat.xt wd ((l.take i).map (· - b)) = acc at *
        have haI : (acc : Int) ≤ 640 := by have := HNL.out; omega
        have ha0 : (0 : Int) ≤ (acc : Int) := by omega
        have HX := hid X
        have d0r := cell_regrown d0
        by_cases ho : wd < Lib.bitLen y
        · rw [Bits.fitsB_false ho] at CF
          obtain ⟨S, hS⟩ : ∃ S : ByteArray, S = ⟨(Vary.wr y).toArray⟩ := ⟨_, rfl⟩
          have hSs : S.size = (Vary.wr y).length := by rw [hS, str_size]
          have hS9 : (S.size : Int) ≤ 9 := by rw [hSs, Vary.wr_len]; have := Vary.beh_le8 y; omega
          have HO := hid (show Pat.one wd y = 1 + S.size by unfold Pat.one; rw [if_pos ho, hSs])
          rw [← hS] at CW
          clear c1 hx hxl hbx hy hyl ho hS hSs hx1 hti X
          go_wp2
          refine wp_region_walk [(0, true), (1, true), (2, true), (3, true), (4, true), (5, false), (6, true), (7, true)] (by kernel_rfl) (by kernel_rfl) (fun _ _ _ _ _ h => h) (by kernel_rfl) (by rfl) ?_
          simp only [List.filterMap_cons, List.filterMap_nil, List.getElem?_toArray, List.getElem?_cons_zero, List.getElem?_cons_succ, Option.map_some]
          repeat (refine wpM_val (by rfl) ?_; intro K hK; go_big_quiet_op; go_big_quiet_on)
          have HY1 : Hid (Ext wr wr.drew) := hid (Ext.draw (ext_refl wr))
          refine wpM_do (by rfl) ?_
          intro K hK
          go_simp
          refine Calls.mono (CB.out _ (HX.out.then HY1.out)) ?_
          rintro e _ ⟨rfl, rfl⟩
          refine hK _ _ HY1.out ?_
          clear K hK
          repeat (refine wpM_val (by rfl) ?_; intro K hK; go_big_quiet_op; go_big_quiet_on)
          refine wpM_nil ?_
          go_wp2_with fail
          refine Calls.mono (CF.out _) ?_
          rintro e _ ⟨rfl, rfl⟩
          go_wp2_with fail
          refine Calls.mono (CW.out _) ?_
          rintro e w2 ⟨rfl, hx⟩
          have X2 := hid ((HX.out.then HY1.out).then hx)
          clear hx
          go_wp2
          go_roundw
          case rel => exact ⟨i + 1, by omega, by go_num, by rw [HS.out, HO.out]; go_num, X2.out⟩
          case measure => simp [intOf]; omega
        · rw [Bits.fitsB_true (by omega)] at CF
          have HO := hid (show Pat.one wd y = 0 by unfold Pat.one; rw [if_neg ho])
          clear c1 hx hxl hbx hy hyl ho hx1 hti X
          go_wp2
          refine wp_region_walk [(0, true), (1, true), (2, true), (3, true), (4, true), (5, false), (6, true), (7, true)] (by kernel_rfl) (by kernel_rfl) (fun _ _ _ _ _ h => h) (by kernel_rfl) (by rfl) ?_
          simp only [List.filterMap_cons, List.filterMap_nil, List.getElem?_toArray, List.getElem?_cons_zero, List.getElem?_cons_succ, Option.map_some]
          repeat (refine wpM_val (by rfl) ?_; intro K hK; go_big_quiet_op; go_big_quiet_on)
          have HY1 : Hid (Ext wr wr.drew) := hid (Ext.draw (ext_refl wr))
          refine wpM_do (by rfl) ?_
          intro K hK
          go_simp
          refine Calls.mono (CB.out _ (HX.out.then HY1.out)) ?_
          rintro e _ ⟨rfl, rfl⟩
          refine hK _ _ HY1.out ?_
          clear K hK
          repeat (refine wpM_val (by rfl) ?_; intro K hK; go_big_quiet_op; go_big_quiet_on)
          refine wpM_nil ?_
          go_wp2_with fail
          refine Calls.mono (CF.out _) ?_
          rintro e _ ⟨rfl, rfl⟩
          have X2 := hid (HX.out.then HY1.out)
          go_wp2
          go_roundw
          case rel => exact ⟨i + 1, by omega, by go_num, by rw [HS.out, HO.out]; go_num, X2.out⟩
          case measure => simp [intOf]; omega
      · obtain rfl : i = n := by omega
        have htl : l.take i = l := List.take_of_length_le (by rw [HN.out]; exact Nat.le_refl _)
        rw [htl, ← HMOR.out]
        clear hx1 hti htl
        go_wp2
        go_returns
        exact ⟨rfl, X⟩
end Go.Proofs.Ytdblegdbfdhepaa
