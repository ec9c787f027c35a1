/- TableRedacts: walk (printed by gen_tzy.py). -/
import Derived.Test.YtolhifnlahllnaaGreatDoorTzq
import Derived.Test.YtolhifnlahllnaaGreatDoorTzd
import Derived.Test.YtolhifnlahllnaaGreatDoorTze
namespace Hy.Cnd
open Go
theorem rchk_all : ∀ (ks : List Int) (row : List Cel), (∀ k (h1 : k < ks.length) (h2 : k < row.length), Cel.cchk ks[k] [row[k]] = 0) → rchk ks row = 0
  | [], row, _ => by cases row <;> rfl
  | k :: ks, [], _ => rfl
  | k :: ks, c :: row, h => by
    have h0 := h 0 (by simp) (by simp)
    simp only [rchk]
    rw [if_neg (by simpa using h0)]
    exact rchk_all ks row (fun i h1 h2 => h (i + 1) (by simpa using h1) (by simpa using h2))
end Hy.Cnd
namespace Hy.Tb
open Go
theorem row_ask {t : Tab} {p : List Cnd} (h : Right t) (hc : Cnd.chk (knds t.1) p = 0) {i : Nat} (hi : i < many t) : Cnd.ask (knds t.1) p (rowAt t.2 i) = (Cnd.val (Cnd.askf (rowAt t.2 i)) Cnd.jn p, 0) :=
  Cnd.ask_ok hc (by rw [row_len, knds_len, h.len]) (Cnd.rchk_all _ _ (fun k h1 h2 => row_cells h hi k h1 h2))
end Hy.Tb
namespace Go.Proofs.YtolhifnlahllnaaGreatDoor
open Go.RowKit Hy
abbrev TRr (f : Nat) (args : Array Value) (w : World) (E : Int) (T : Tb.Tab) : Prop := Calls Tryz.prog f args w fun e w' => ∃ v', e = .returned (.tuple #[v', .int .i64 E]) ∧ TbL w' w.heap.size v' T ∧ Ext w w'
set_option maxHeartbeats 25600000 in
set_option maxRecDepth 100000 in
theorem tableRedacts_any (t : Tb.Tab) (s : ByteArray) (p : List Cnd) (P : Option Addr) (np pcap : Nat) (v : Value) (w : World) (hv : TbV w v t) (hb : TbB t) (hpn : p.length = np) (hp : Rd w P (cns p)) (hnl : np ≤ 140737488355328) (hcap : np ≤ pcap) :
    Calls Tryz.prog 5 #[v, .string s, .slice P np pcap] w fun e w' => e = .returned (.bool true) ∧ Ext w w' := by
  have HB := hid hb
  obtain ⟨A, n, c, B, m, d, rfl⟩ := hv.shape
  have HV0 := hid hv
  have HP := hid hp
  have HPN := hid hpn
  have hpI : (np : Int) ≤ 140737488355328 := by omega
  obtain ⟨E1, hE1⟩ : ∃ E, E = Tb.redE t s p := ⟨_, rfl⟩
  have HA1 := hid (fun v wx (hx : TbV wx v t) (hq : Rd wx P (cns p)) => show TRr 6 #[v, .string s, .slice P np pcap] wx (E1 : Nat) (Tb.res E1 (Tb.redT t s p)) from by
    have h := red_any t s p P np pcap v wx hx HB.out hpn hq hnl
    rw [← hE1] at h; exact h)
  have HA2 := hid (fun (T : Tb.Tab) (hT : TbB T) (h0 : Tb.redE T s p = 0) v wx (hx : TbV wx v T) (hq : Rd wx P (cns p)) => show TRr 6 #[v, .string s, .slice P np pcap] wx 0 (Tb.redT T s p) from by
    have h := red_any T s p P np pcap v wx hx hT hpn hq hnl
    rw [h0] at h; exact h)
  obtain ⟨L, hn, hm, h1, h2, hL, hok, hc⟩ := tb_parts hv
  have HCOL := hid (⟨hn, hm, h1⟩ : n = t.1.length ∧ m = t.2.length ∧ Rd w A (ens t.1))
  have HPL := hid (⟨hpn, hnl, hcap⟩ : p.length = np ∧ np ≤ 140737488355328 ∧ np ≤ pcap)
  have HE1 := hid hE1
  have HTE := hid (fun (E : Nat) (T : Tb.Tab) (h0 : E ≠ 0) v wx (h1 : TbV wx v (Tb.res E T)) => show Calls Tryz.prog 17 #[v, .agg #[.slice none 0 0, .slice none 0 0]] wx fun e w' => e = .returned (.bool true) ∧ Ext wx w' from by
    rw [Tb.res_no h0] at h1
    have h := sameT_any ([], []) ([], []) v _ wx h1 (tb0_V wx) ⟨by decide, by decide, fun x hx => absurd hx List.not_mem_nil, fun x hx => absurd hx List.not_mem_nil⟩
    rw [decide_eq_true rfl] at h; exact h)
  have HSM := hid (fun (T : Tb.Tab) (hb : TbB T) v u wx (h1 : TbV wx v T) (h2 : TbV wx u T) => show Calls Tryz.prog 17 #[v, u] wx fun e w' => e = .returned (.bool true) ∧ Ext wx w' from by
    have h := sameT_any T T v u wx h1 h2 hb
    rw [decide_eq_true rfl] at h; exact h)
  have XN := hid ((ext_refl w).new (.cells #[.slice A n c, .slice B m d] 25))
  clear hv hb hpn hp hnl hcap hE1 hn hm h1 h2 hL hok hc
  go_enter Tryz.func5, Tryz.ntmps5
  go_upto_region 1 with fail
  refine wp_gen (fun w' => Ext w w' ∧ Blk w' w.heap.size 25 #[.slice A n c, .slice B m d]) ⟨XN.out, blk_at _ _ rfl⟩ ?_
  rintro wz ⟨x0, x1⟩
  have X0 : Hid (Ext w wz) := hid x0
  have X : Hid (Ext wz wz) := hid (ext_refl wz)
  have BT := hid x1
  have VT := hid (HV0.out.keep x0)
  have RP := hid (HP.out.keep x0)
  clear x0 x1 XN
  have BTk := hid (BT.out.keep X.out)
  have kBTk0 := BTk.out.cell 0
  have kBTk1 := BTk.out.cell 1
  go_wp2_with fail
  refine Calls.mono (HA1.out _ _ (VT.out.keep X.out) (RP.out.keep X.out)) ?_
  rintro e w1 ⟨v', rfl, hl, hx⟩
  obtain ⟨Aa, na, ca, Da, ma, da, rfl⟩ := hl.V.shape
  have hn := Ext.new (ext_refl w1) (.cells #[.slice Aa na ca, .slice Da ma da] 25)
  have Ba := hid (Blk.new w1 25 #[.slice Aa na ca, .slice Da ma da])
  have Va := hid (hl.V.keep hn)
  have hy := Ext.then hx hn
  replace X := hid (X.out.then hy)
  clear BTk kBTk0 kBTk1 hx hl hn hy
  go_wp2_with fail
  refine Calls.mono (tableBegun_any _) ?_
  rintro e w2 ⟨rfl, hx⟩
  replace X := hid (X.out.then hx)
  replace Ba := hid (Ba.out.keep hx)
  replace Va := hid (Va.out.keep hx)
  clear  hx
  by_cases h0 : E1 = 0
  · have hk1 := Tb.redE_ok.1 (HE1.out.symm.trans h0)
    subst h0
    obtain ⟨TA, hTA⟩ : ∃ T, T = Tb.redT t s p := ⟨_, rfl⟩
    have hrt := hk1.1
    have rA : Tb.Right TA := by rw [hTA]; exact Tb.red_right hrt
    have HVA := hid (show TbV _ _ TA from by rw [hTA]; exact Va.out)
    have HBA := hid (Right.B rA)
    have h6 := hrt.six
    have hlen := hrt.len
    have hlim := hrt.lim
    obtain ⟨hak, hnme, hixe⟩ := Tb.at_name hrt hk1.2.1
    obtain ⟨a, ha⟩ : ∃ a, a = Tb.at0 t s := ⟨_, rfl⟩
    rw [← ha] at hixe hak
    obtain ⟨hn, hm, hcols⟩ := HCOL.out
    have HAT := hid (fun wy (hx : Ext w wy) => show Calls Tryz.prog 31 #[.slice A n c, .string s] wy fun e w' => e = .returned (.int .i64 (a : Int)) ∧ Ext wy w' from Calls.mono (colAt_any t.1 s A n c wy hn.symm (hcols.keep hx) (by omega)) (by rintro e w' ⟨h, rfl⟩; rw [hixe] at h; exact ⟨h, ext_refl _⟩))
    obtain ⟨M, hM⟩ : ∃ M, M = Tb.many t := ⟨_, rfl⟩
    rw [← hM] at hlim
    have HRO := hid (fun wx (hx : Ext w wx) => show Calls Tryz.prog 24 #[.agg #[.slice A n c, .slice B m d]] wx fun e w' => e = .returned (.int .i64 (M : Nat)) ∧ Ext wx w' from by rw [hM]; exact rowsOf_any t _ wx (HV0.out.keep hx) HB.out)
    have HKO := hid (fun wx (hx : Ext w wx) => kindsOf_any t.1 A n c wx hn.symm (hcols.keep hx) (by omega))
    have HRA := hid (fun i wx (hx : Ext w wx) (hi : i < M) => show Calls Tryz.prog 25 #[.agg #[.slice A n c, .slice B m d], .int .i64 (i : Int)] wx fun e w' => ∃ v', e = .returned v' ∧ w'.ownsRow wx.heap.size 42 3 v' m (cls (Tb.rowAt t.2 i)) ∧ Ext wx w' from by
      have h := rowAt_any t i _ wx (HV0.out.keep hx) (by omega) (fun l hl => by rw [hrt.row l hl, ← hM]; exact hi) (fun l hl => by rw [hrt.row l hl, ← hM]; omega)
      rw [← hm] at h; exact h)
    have HASK := hid (fun i K kc R rc wx (hx : Ext w wx) (hi : i < M) (hk : Rd wx K (i64s (Tb.knds t.1))) (hr : Rd wx R (cls (Tb.rowAt t.2 i))) (hrc : m ≤ rc) => show Calls Tryz.prog 32 #[.slice P np pcap, .slice K n kc, .slice R m rc] wx fun e w' => e = .returned (.tuple #[.int .i64 ((Cnd.val (Cnd.askf (Tb.rowAt t.2 i)) Cnd.jn p : Nat) : Int), .int .i64 0]) ∧ Ext wx w' from by
      have h := ask_any (Tb.knds t.1) p (Tb.rowAt t.2 i) P K R np pcap n kc m rc wx HPL.out.1 (HP.out.keep hx) HPL.out.2.1 (by rw [Tb.knds_len, hn]) hk (by omega) (by rw [Tb.row_len, hm]) hr (by omega) hrc
      rw [Tb.row_ask hrt hk1.2.2 (by rw [← hM]; exact hi)] at h
      exact h)
    have HTR := hid (fun i => show (Cnd.val (Cnd.askf (Tb.rowAt t.2 i)) Cnd.jn p = 2) = (Tb.tr p t.2 i = true) by unfold Tb.tr; simp)
    have HRR := hid (fun i (hi : i < M) => show Tb.rowAt TA.2 i = if Tb.tr p t.2 i = true then (Tb.rowAt t.2 i).set a Cnd.O else Tb.rowAt t.2 i from by rw [hTA, ha]; exact Tb.row_red hrt (by rw [← hM]; exact hi))
    have hmA : Tb.many TA = M := by rw [hTA, Tb.red_many, hM]
    have hlA : TA.2.length = m := by rw [hTA, Tb.red_len, hm]
    have HROW := hid (fun (i : Nat) v wx (hx : TbV wx v TA) (hi : i < M) => show Calls Tryz.prog 19 #[v, .int .i64 (i : Int)] wx fun e w' => ∃ A c, e = .returned (.tuple #[.slice A m c, .int .i64 0]) ∧ Rd w' A (cls (Tb.rowAt TA.2 i)) ∧ Ext wx w' from by
      have hE : rowE TA i = 0 := by unfold rowE; rw [if_neg (by rw [rA.ck]; decide), if_neg (by rw [hmA]; omega)]
      have hl : rowL TA i = Tb.rowAt TA.2 i := by unfold rowL; rw [if_pos hE]; rfl
      have h := row_any TA i v wx hx HBA.out (fun _ => ⟨by rw [hlA]; omega, rA.row, rA.lim⟩)
      rw [hE, hl, Tb.row_len, hlA] at h
      refine Calls.mono h ?_
      rintro e w' ⟨v', rfl, ho, hx⟩
      obtain ⟨A', c', rfl, hr, _⟩ := Rd.owned ho
      exact ⟨A', c', rfl, hr, hx⟩)
    have HSC := hid (fun i X Y ca cb wx (h1 : Rd wx X (cls (Tb.rowAt TA.2 i))) (h2 : Rd wx Y (cls (Tb.rowAt TA.2 i))) => show Calls Tryz.prog 30 #[.slice X m ca, .slice Y m cb] wx fun e w' => e = .returned (.bool true) ∧ Ext wx w' from by
      have h := sameCells_any (Tb.rowAt TA.2 i) (Tb.rowAt TA.2 i) X Y m m ca cb wx (by rw [Tb.row_len, hlA]) (by rw [Tb.row_len, hlA]) h1 h2 (by omega)
      rw [decide_eq_true rfl] at h; exact h)
    have HRD := hid (show Tb.redE TA s p = 0 from by rw [hTA]; exact Tb.red_red (Tb.redE_ok.2 hk1))
    have HAG := hid (fun (ho : Tb.ownq p (a : Nat) = false) => show Tb.redT TA s p = TA from by rw [hTA]; exact Tb.red_again (Tb.redE_ok.2 hk1) (by rw [← ha]; exact ho))
    have HB2 := hid (show TbB (Tb.redT TA s p) from Right.B (Tb.red_right rA))
    have hMI : (M : Int) ≤ 128 := by omega
    have haI : (0 : Int) ≤ (a : Int) := by omega
    have hamI : (a : Int) < (m : Int) := by omega
    have HAM := hid (⟨by omega, by omega⟩ : a < m ∧ m ≤ 6)
    have HRL := hid (fun i => show (Tb.rowAt t.2 i).length = m by rw [Tb.row_len, hm])
    clear Va hk1 hrt rA h6 hlen hlim hak hnme hixe ha hn hm hcols hM hmA hlA hTA
    have BTk := hid (BT.out.keep X.out)
    have kBTk0 := BTk.out.cell 0
    have kBTk1 := BTk.out.cell 1
    go_wp2_with fail
    refine Calls.mono (HAT.out _ (X0.out.then X.out)) ?_
    rintro e w3 ⟨rfl, hx⟩
    replace X := hid (X.out.then hx)
    replace Ba := hid (Ba.out.keep hx)
    replace HVA := hid (HVA.out.keep hx)
    clear kBTk0 kBTk1 hx BTk
    go_wp2
    go_loop [10, 11] (fun o ii => ∃ k : Nat, k ≤ np ∧ ii = .int .i64 k ∧ o = .bool (Tb.ownq (p.take k) (a : Nat))) (fun _ ii => np - (intOf ii).toNat)
    case atStart => exact ⟨0, Nat.zero_le _, rfl, rfl⟩
    case round =>
      obtain ⟨k, hk, rfl, rfl⟩ := hrel
      by_cases hlt : k < np
      · have hka : k < p.length := by rw [HPN.out]; exact hlt
        obtain ⟨b1, o1, e1, l1, c1⟩ := (RP.out.keep X.out).cnds k hka
        have d0 := (c1 k hka).1
        have d1 := (c1 k hka).2.1
        have HS := hid (Tb.ownq_succ (a := (a : Nat)) hka)
        have hkI : (k : Int) < (np : Int) := by omega
        have HLT := hid hlt
        generalize p[k] = ck at *
        obtain ⟨op, col, cx⟩ := ck
        simp only at d0 d1 HS
        have he1 := hid e1
        clear c1 l1 hka hlt e1
        have e1 := he1.out
        subst e1
        obtain ⟨q, hq⟩ : ∃ q, q = Tb.ownq (p.take k) (a : Nat) := ⟨_, rfl⟩
        rw [← hq] at HS ⊢
        clear hq
        cases q with
        | true =>
          rw [Bool.true_or] at HS
          clear d0 d1
          go_wp2
          go_round
          case rel => exact ⟨k + 1, by have := HLT.out; omega, by go_num, by rw [HS.out]⟩
          case measure => have := HLT.out; simp [intOf]; omega
        | false =>
          rw [Bool.false_or] at HS
          by_cases h4 : op ≤ 4
          · by_cases hc : col = (a : Int)
            · rw [decide_eq_true ⟨h4, hc⟩] at HS
              have g1 : (col == (a : Int)) = true := by rw [hc]; simp
              clear hc
              go_wp2
              go_round
              case rel => exact ⟨k + 1, by have := HLT.out; omega, by go_num, by rw [HS.out]⟩
              case measure => have := HLT.out; simp [intOf]; omega
            · rw [decide_eq_false (fun h => hc h.2)] at HS
              have g1 : (col == (a : Int)) = false := beq_eq_false_iff_ne.2 hc
              clear hc
              go_wp2
              go_round
              case rel => exact ⟨k + 1, by have := HLT.out; omega, by go_num, by rw [HS.out]⟩
              case measure => have := HLT.out; simp [intOf]; omega
          · rw [decide_eq_false (fun h => h4 h.1)] at HS
            have h4' : 4 < op := by omega
            clear h4
            go_wp2
            go_round
            case rel => exact ⟨k + 1, by have := HLT.out; omega, by go_num, by rw [HS.out]⟩
            case measure => have := HLT.out; simp [intOf]; omega
      · obtain rfl : np = k := by omega
        rw [List.take_of_length_le (by rw [HPN.out]; exact Nat.le_refl _)]
        clear hlt
        obtain ⟨q, hq⟩ : ∃ q, q = Tb.ownq p (a : Nat) := ⟨_, rfl⟩
        rw [← hq]
        have HQ := hid hq
        clear hq
        go_wp2
        go_loopw [12, 13, 14, 15, 16, 17] (fun ii _ _ _ _ _ wr => ∃ k : Nat, k ≤ M ∧ ii = .int .i64 k ∧ Hid (Ext w3 wr)) (fun ii _ _ _ _ _ _ => M - (intOf ii).toNat)
        case atStart => exact ⟨0, Nat.zero_le _, rfl, hid (ext_refl _)⟩
        case round =>
          obtain ⟨k, hk, rfl, HX⟩ := hrel
          have XW := hid (X0.out.then (X.out.then HX.out))
          have BT2 := hid (BT.out.keep (X.out.then HX.out))
          have BA2 := hid (Ba.out.keep HX.out)
          by_cases hlt : k < M
          · have hlI : (k : Int) < (M : Int) := by omega
            have HLT := hid hlt
            have kBT0 := BT2.out.cell 0
            have kBT1 := BT2.out.cell 1
            go_wp2_with fail
            refine Calls.mono (HRO.out _ XW.out) ?_
            rintro e w4 ⟨rfl, hx⟩
            have Y4 := hid hx
            clear kBT0 kBT1 hx hlt
            have kBT0 := (BT2.out.keep Y4.out).cell 0
            have kBT1 := (BT2.out.keep Y4.out).cell 1
            have kBT0r := cell_regrown kBT0
            have kBT1r := cell_regrown kBT1
            go_upto_region 15 with fail
            refine wp_region_walk [(0, true), (1, true), (2, true), (4, true), (5, true), (3, false), (6, false), (7, false), (8, true), (9, true), (10, true), (11, true), (12, true)] (by kernel_rfl) (by kernel_rfl) (fun _ _ _ _ _ h => h) (by kernel_rfl) (by rfl) ?_
            simp only [List.filterMap_cons, List.filterMap_nil, List.getElem?_toArray, List.getElem?_cons_zero, List.getElem?_cons_succ, Option.map_some]
            repeat (refine wpM_val (by rfl) ?_; intro K hK; go_big_quiet_op; go_big_quiet_on)
            refine wpM_do (by rfl) ?_
            intro K hK
            go_simp
            refine Calls.mono (HKO.out _ (XW.out.then (Y4.out.then (Ext.draw (ext_refl w4))))) ?_
            rintro e w5 ⟨vk, rfl, ok, hx⟩
            obtain ⟨KA, kc, rfl, rk, _⟩ := Rd.owned ok
            have Y5 := hid (Ext.then (Ext.draw (ext_refl w4)) hx)
            have RK := hid rk
            refine hK _ _ Y5.out ?_
            clear K hK hx ok rk
            refine wpM_do (by rfl) ?_
            intro K hK
            go_simp
            refine Calls.mono (HRA.out k _ (XW.out.then (Y4.out.then Y5.out)) HLT.out) ?_
            rintro e w6 ⟨vr, rfl, ok, hx⟩
            obtain ⟨RA, rc, rfl, rr, _, hrc, _⟩ := Rd.owned ok
            have Y6 := hid (Y5.out.then hx)
            have RR := hid rr
            replace RK := hid (RK.out.keep hx)
            have HRC := hid hrc
            refine hK _ _ Y6.out ?_
            clear K hK hx ok rr hrc
            refine wpM_do (by rfl) ?_
            intro K hK
            go_simp
            refine Calls.mono (HASK.out k _ _ _ _ _ (XW.out.then (Y4.out.then Y6.out)) HLT.out RK.out RR.out HRC.out) ?_
            rintro e w7 ⟨rfl, hx⟩
            have Y7 := hid (Y6.out.then hx)
            refine hK _ _ Y7.out ?_
            clear K hK hx
            repeat (refine wpM_val (by rfl) ?_; intro K hK; go_big_quiet_op; go_big_quiet_on)
            refine wpM_nil ?_
            have Z7 := hid (Y4.out.then Y7.out)
            clear kBT0 kBT1 kBT0r kBT1r
            have kBT0 := (BT2.out.keep Z7.out).cell 0
            have kBT1 := (BT2.out.keep Z7.out).cell 1
            go_wp2_with fail
            refine Calls.mono (HRA.out k _ (XW.out.then Z7.out) HLT.out) ?_
            rintro e w8 ⟨vw, rfl, ow, hx⟩
            obtain ⟨WA, wc, rfl, rw', _⟩ := Rd.owned ow
            have Z8 := hid (Z7.out.then hx)
            have HOW := hid ow
            have HW7 := hid hx
            clear hx ow rw' kBT0 kBT1
            have HT := hid (HTR.out k)
            have hbe : ((Cnd.val (Cnd.askf (Tb.rowAt t.2 k)) Cnd.jn p : Int) == 2) = Tb.tr p t.2 k := by
              have := HT.out
              rw [Bool.eq_iff_iff, ← this]
              rw [beq_iff_eq]; omega
            have HRK := hid (HRR.out k HLT.out)
            have HLK := hid (HRL.out k)
            generalize Cnd.val (Cnd.askf (Tb.rowAt t.2 k)) Cnd.jn p = z at *
            obtain ⟨rowt, hrowt⟩ : ∃ r, r = Tb.rowAt t.2 k := ⟨_, rfl⟩
            rw [← hrowt] at HOW HRK HLK
            clear HT hrowt
            cases htr : Tb.tr p t.2 k with
            | true =>
              rw [htr] at hbe
              rw [if_pos htr] at HRK
              clear htr
              obtain ⟨ba, eA⟩ := own_some HOW.out (by have := HAM.out; omega)
              have HO2 := hid (show w8.ownsRow w7.heap.size 42 3 (.slice (some ⟨ba, 0, none⟩) m wc) m (cls rowt) by rw [← eA]; exact HOW.out)
              obtain ⟨b3, o3, e3, l3, c3⟩ := (own_rd HO2.out).1.cels a (by rw [HLK.out]; exact HAM.out.1)
              obtain ⟨rfl, rfl⟩ : b3 = ba ∧ o3 = 0 := by
                injection e3 with e3; injection e3 with e3 e5; exact ⟨e3.symm, e5.symm⟩
              obtain ⟨s0, s1, s2⟩ := c3 a (by rw [HLK.out]; exact HAM.out.1)
              rw [Nat.zero_add] at s0 s1 s2
              obtain ⟨hgb3, _, cur, hcur', _⟩ := own_cur HO2.out
              have hcur : Blk w8 b3 42 cur := hcur'
              have f0 := Blk.frozen hcur (a * 3)
              have f1 := Blk.frozen hcur (a * 3 + 1)
              have f2 := Blk.frozen hcur (a * 3 + 2)
              have HGB3 := hid hgb3
              have HCS := hid (Tb.cls_set rowt a (by rw [HLK.out]; exact HAM.out.1) Cnd.O)
              have heA := hid eA
              generalize rowt[a]'(by rw [HLK.out]; exact HAM.out.1) = xq at *
              obtain ⟨z1, z2, z3⟩ := xq
              simp only at s0 s1 s2
              clear c3 l3 e3 eA hcur hcur' hgb3
              have eA := heA.out
              subst eA
              go_upto_region 19 with fail
              refine wp_gen (fun wq => Ext w7 wq ∧ Rd wq (some ⟨b3, 0, none⟩) (cls (Tb.rowAt TA.2 k))) ⟨Ext.put (Ext.put (Ext.put HW7.out (p := ⟨b3, a * 3, none⟩) HGB3.out _) (p := ⟨b3, a * 3 + 1, none⟩) HGB3.out _) (p := ⟨b3, a * 3 + 2, none⟩) HGB3.out _, by
                have := own_set (own_set (own_set HO2.out rfl (a * 3) (.int .i64 0)) rfl (a * 3 + 1) (.int .u64 0)) rfl (a * 3 + 2) (.string ⟨#[]⟩)
                rw [show ((((cls rowt).set (a * 3) (.int .i64 0)).set (a * 3 + 1) (.int .u64 0)).set (a * 3 + 2) (.string ⟨#[]⟩)) = cls (rowt.set a Cnd.O) from HCS.out] at this
                rw [HRK.out]; exact (own_rd this).1⟩ ?_
              rintro wq ⟨y0, y1⟩
              have ZQ := hid (Z7.out.then y0)
              have RW := hid y1
              clear y0 y1 s0 s1 s2 f0 f1 f2
              have BA9 := hid (BA2.out.keep ZQ.out)
              have VA9 := hid (HVA.out.keep (HX.out.then ZQ.out))
              have kBa0 := BA9.out.cell 0
              have kBa1 := BA9.out.cell 1
              go_wp2_with fail
              refine Calls.mono (HROW.out k _ _ VA9.out HLT.out) ?_
              rintro e w10 ⟨RA2, rc2, rfl, rr2, hx⟩
              have RR2 := hid rr2
              have RW2 := hid (RW.out.keep hx)
              have ZX := hid (ZQ.out.then hx)
              clear kBa0 kBa1 hx rr2
              go_wp2_with fail
              refine Calls.mono (HSC.out k _ _ _ _ _ RR2.out RW2.out) ?_
              rintro e w11 ⟨rfl, hx⟩
              have ZY := hid (ZX.out.then hx)
              clear hx
              go_wp2
              go_roundw
              case rel => exact ⟨k + 1, by have := HLT.out; omega, by go_num, hid (HX.out.then ZY.out)⟩
              case measure => have := HLT.out; simp [intOf]; omega
            | false =>
              rw [htr] at hbe
              rw [if_neg (by rw [htr]; decide)] at HRK
              clear htr
              have ZQ := hid Z8.out
              have RW := hid (show Rd w8 WA (cls (Tb.rowAt TA.2 k)) by rw [HRK.out]; exact (own_rd HOW.out).1)
              have BA9 := hid (BA2.out.keep ZQ.out)
              have VA9 := hid (HVA.out.keep (HX.out.then ZQ.out))
              have kBa0 := BA9.out.cell 0
              have kBa1 := BA9.out.cell 1
              go_wp2_with fail
              refine Calls.mono (HROW.out k _ _ VA9.out HLT.out) ?_
              rintro e w10 ⟨RA2, rc2, rfl, rr2, hx⟩
              have RR2 := hid rr2
              have RW2 := hid (RW.out.keep hx)
              have ZX := hid (ZQ.out.then hx)
              clear kBa0 kBa1 hx rr2
              go_wp2_with fail
              refine Calls.mono (HSC.out k _ _ _ _ _ RR2.out RW2.out) ?_
              rintro e w11 ⟨rfl, hx⟩
              have ZY := hid (ZX.out.then hx)
              clear hx
              go_wp2
              go_roundw
              case rel => exact ⟨k + 1, by have := HLT.out; omega, by go_num, hid (HX.out.then ZY.out)⟩
              case measure => have := HLT.out; simp [intOf]; omega
          · obtain rfl : k = M := by omega
            have kBT0 := BT2.out.cell 0
            have kBT1 := BT2.out.cell 1
            go_wp2_with fail
            refine Calls.mono (HRO.out _ XW.out) ?_
            rintro e w4 ⟨rfl, hx⟩
            have XE := hid (X.out.then (HX.out.then hx))
            have BA9 := hid (BA2.out.keep hx)
            have VA9 := hid (HVA.out.keep (HX.out.then hx))
            clear kBT0 kBT1 hx hlt
            have kBa0 := BA9.out.cell 0
            have kBa1 := BA9.out.cell 1
            go_wp2_with fail
            refine Calls.mono (HA2.out TA HBA.out HRD.out _ _ VA9.out (RP.out.keep XE.out)) ?_
            rintro e w12 ⟨v', rfl, hl, hx⟩
            obtain ⟨Ab, nb, cb, Db, mb, db, rfl⟩ := hl.V.shape
            have hn := Ext.new (ext_refl w12) (.cells #[.slice Ab nb cb, .slice Db mb db] 25)
            have Bb := hid (Blk.new w12 25 #[.slice Ab nb cb, .slice Db mb db])
            have Vb := hid (hl.V.keep hn)
            have XF := hid (XE.out.then (hx.then hn))
            have BAF := hid (BA9.out.keep (hx.then hn))
            have VAF := hid (VA9.out.keep (hx.then hn))
            clear kBa0 kBa1 hl hx hn
            cases q with
            | true =>
              go_wp2
              go_returns
              exact ⟨rfl, X0.out.then XF.out⟩
            | false =>
              have hag := HAG.out HQ.out.symm
              have VB9 := hid (show TbV _ _ TA from by rw [← hag]; exact Vb.out)
              clear hag Vb
              have kBb0 := Bb.out.cell 0
              have kBb1 := Bb.out.cell 1
              have kBa0 := BAF.out.cell 0
              have kBa1 := BAF.out.cell 1
              go_wp2_with fail
              refine Calls.mono (HSM.out _ HBA.out _ _ _ VB9.out VAF.out) ?_
              rintro e w13 ⟨rfl, hx⟩
              have XG := hid (XF.out.then hx)
              clear hx
              go_wp2
              go_returns
              exact ⟨rfl, X0.out.then XG.out⟩
  · have e1 : ((E1 : Int) == 0) = false := beq_eq_false_iff_ne.2 (by omega)
    have e2 : ((E1 : Int) != 0) = true := by simp; omega
    have HTE2 := hid (HTE.out E1 (Tb.redT t s p) h0)
    clear h0
    have kBa0 := Ba.out.cell 0
    have kBa1 := Ba.out.cell 1
    go_wp2_with fail
    refine Calls.mono (HTE2.out _ _ Va.out) ?_
    rintro e w3 ⟨rfl, hx⟩
    replace X := hid (X.out.then hx)
    clear kBa0 kBa1 hx
    go_wp2
    go_returns
    exact ⟨rfl, X0.out.then X.out⟩
end Go.Proofs.YtolhifnlahllnaaGreatDoor
