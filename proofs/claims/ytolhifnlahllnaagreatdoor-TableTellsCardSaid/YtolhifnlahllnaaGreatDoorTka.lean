/- Tables: Keep's closure: walk. Tables: Keep: walk (printed by gen_tkb.py). Tables: Slice's closure: walk. Tables: SameColumns, slices.Equal of columns: walks (printed by gen_tkd.py). Tables: Append's closure: walk. Tables: Delete of columns, of rows: walks (printed by gen_tkf.py). slices.Repeat of one cell: walk. -/
import Derived.Test.YtolhifnlahllnaaGreatDoorTbm
import Derived.Test.YtolhifnlahllnaaGreatDoorTly
import Derived.Test.YtolhifnlahllnaaGreatDoorTbb
import Derived.Test.YtolhifnlahllnaaGreatDoorGhx
import Derived.Test.YtolhifnlahllnaaGreatDoorGen
import Derived.Test.YtolhifnlahllnaaGreatDoorShelf
import Derived.Deep.RegionLaw
import Derived.Laws.MakeOwn
section
namespace Hy
open Go Go.RowKit
theorem rws_map (L : List Rw) : rws' L = L.map fun x => .slice x.1.1 x.1.2.1 x.1.2.2 := by
  induction L with
  | nil => rfl
  | cons x r ih => rw [List.map_cons, ← ih]; rfl
theorem rws_set (L : List Rw) (k : Nat) (a : Option Addr) (n c : Nat) (l : List Cel) : (rws' L).set k (.slice a n c) = rws' (L.set k ((a, n, c), l)) := by
  rw [rws_map, rws_map, List.map_set]
end Hy
namespace Hy.Tb
theorem keep_step {d : List (List Cel)} {f : List Cel → List Cel} {k : Nat} (hk : k < d.length) : ((d.take k).map f ++ d.drop k).set k (f d[k]) = (d.take (k + 1)).map f ++ d.drop (k + 1) := by
  rw [List.set_append_right _ _ (by simp; omega), List.length_map, List.length_take, Nat.min_eq_left (by omega), Nat.sub_self, List.drop_eq_getElem_cons hk, List.set_cons_zero, List.take_succ_eq_append_getElem hk, List.map_append]
  simp
theorem keep_get {d : List (List Cel)} {f : List Cel → List Cel} {k : Nat} (hk : k < d.length) (h : k < ((d.take k).map f ++ d.drop k).length) : ((d.take k).map f ++ d.drop k)[k] = d[k] := by
  rw [List.getElem_append_right (by simp; omega)]
  simp [Nat.min_eq_left (Nat.le_of_lt hk)]
end Hy.Tb
namespace Go.Proofs.YtolhifnlahllnaaGreatDoor
open Go.RowKit Hy
theorem TbO.parts {w : World} {base g : Nat} {t : Tb.Tab} (h : TbO w base g t) : ∃ A c B d L, Blk w g 25 #[.slice A t.1.length c, .slice B t.2.length d] ∧ g < base ∧ w.ownsRow base 39 2 (.slice A t.1.length c) t.1.length (ens t.1) ∧ w.ownsRow base 45 1 (.slice B t.2.length d) t.2.length (rws' L) ∧ L.map (·.2) = t.2 ∧ (∀ x ∈ L, RwO w base x) ∧ L.Pairwise RwD := by
  obtain ⟨v0, v1, hb, hg, A, c, B, d, L, e, h⟩ := h
  injection e with e
  have e6 := congrArg Array.toList e
  simp only [List.cons.injEq, and_true] at e6
  obtain ⟨rfl, rfl⟩ := e6
  exact ⟨A, c, B, d, L, hb, hg, h⟩
theorem TbG.mk' {w : World} {base g : Nat} {t : Tb.Tab} {A B : Option Addr} {n m c d : Nat} {L : List Rw} (hn : n = t.1.length) (hm : m = t.2.length) (hb : Blk w g 25 #[.slice A n c, .slice B m d]) (h1 : w.ownsRow base 39 2 (.slice A n c) n (ens t.1)) (h2 : w.ownsRow base 45 1 (.slice B m d) m (rws' L)) (hL : L.map (·.2) = t.2) (hok : ∀ x ∈ L, RwO w base x) : TbG w base g t := by
  subst hn hm
  obtain ⟨r1, z1, c1⟩ := own_rd h1
  obtain ⟨r2, z2, c2⟩ := own_rd h2
  exact ⟨_, _, hb, A, c, B, d, L, rfl, r1, r2, hL, fun x hx => (hok x hx).ok, z1, z2, c1, fun a ha => (own_block_rng h1 (by rw [ha]; rfl)).1, fun a ha => (own_block_rng h2 (by rw [ha]; rfl)).1, fun x hx a ha => ((hok x hx).lt ha).1⟩
theorem TbV.of {w : World} {base : Nat} {t : Tb.Tab} {A B : Option Addr} {n m c d : Nat} {L : List Rw} (hn : n = t.1.length) (hm : m = t.2.length) (h1 : w.ownsRow base 39 2 (.slice A n c) n (ens t.1)) (h2 : w.ownsRow base 45 1 (.slice B m d) m (rws' L)) (hL : L.map (·.2) = t.2) (hok : ∀ x ∈ L, RwO w base x) : TbV w (.agg #[.slice A n c, .slice B m d]) t := by
  subst hn hm
  obtain ⟨r1, z1, c1⟩ := own_rd h1
  obtain ⟨r2, z2, c2⟩ := own_rd h2
  exact ⟨A, c, B, d, L, rfl, r1, r2, hL, fun x hx => (hok x hx).ok, z1, z2, c1⟩
set_option maxHeartbeats 6400000 in
set_option maxRecDepth 100000 in
theorem keepC_any (t : Tb.Tab) (p : List Cnd) (base g h1 : Nat) (P : Option Addr) (np pcap : Nat) (wx : World) (ht : TbO wx base g t) (hbw : base ≤ wx.heap.size) (hR : Tb.Right t) (hB : TbB t) (hp1 : wx.cell? ⟨h1, 0, none⟩ = some (.slice P np pcap)) (hpn : p.length = np) (hp : Rd wx P (cns p)) (hnl : np ≤ 140737488355328) :
    Calls Tryz.prog 40 #[.pointer (some ⟨g, 0, none⟩), .pointer (some ⟨h1, 0, none⟩)] wx fun e w' => e = .returned (.int .i64 (Cnd.chk (Tb.knds t.1) p : Nat)) ∧ (Cnd.chk (Tb.knds t.1) p = 0 → TbG w' base g (Tb.keepT t p)) ∧ Chg base g wx w' := by
  obtain ⟨A, c, B, d, L, hg, hgb, o1, o2, hL, hok, hpw⟩ := ht.parts
  obtain ⟨n, hn⟩ : ∃ n, n = t.1.length := ⟨_, rfl⟩
  obtain ⟨m, hm⟩ : ∃ n, n = t.2.length := ⟨_, rfl⟩
  have h6 := hR.six
  have hlen := hR.len
  rw [← hn] at hg o1
  rw [← hm] at hg o2
  have hv := TbV.of hn hm o1 o2 hL hok
  have HKN := hid (fun wy (hx : Ext wx wy) => kinds_any t.1 A n c wy hn.symm ((own_rd o1).1.keep hx) (by omega))
  have HCK := hid (fun (K : Option Addr) (kc : Nat) wy (hx : Ext wx wy) (hk : Rd wy K (i64s (Tb.knds t.1))) => pCheck_any (Tb.knds t.1) p P K np pcap n kc wy hpn (hp.keep hx) hnl (by rw [Tb.knds_len, hn]) hk (by omega))
  have HTR := hid (fun (h0 : Cnd.chk (Tb.knds t.1) p = 0) wy (hx : Ext wx wy) => true_any t p (Tb.knds t.1) _ P np pcap wy (hv.keep hx) hB (by omega) hR.row hR.lim h0 (by rw [Tb.knds_len]; omega) hpn (hp.keep hx))
  have HG := hid hg
  have HGB := hid hgb; have HBW := hid hbw
  have HN := hid hn; have HM := hid hm
  have HO1 := hid o1; have HO2 := hid o2; have HLM := hid hL; have HOK := hid hok; have HR := hid hR
  have HM6 := hid (show m ≤ 6 by omega)
  have hmI : (m : Int) ≤ 6 := by omega
  have a0 := hp1
  have a1 := hg.cell 0
  have a0r := cell_regrown a0
  have a1r := cell_regrown a1
  obtain ⟨E, hE⟩ : ∃ E, E = Cnd.chk (Tb.knds t.1) p := ⟨_, rfl⟩
  rw [← hE] at HCK HTR ⊢
  obtain ⟨M, hM⟩ : ∃ M, M = Tb.many t := ⟨_, rfl⟩
  rw [← hM] at HTR
  have HMM := hid hM
  clear hM
  clear ht hR hB hpn hp hnl hg hgb hbw o1 o2 hL hok hpw hn hm h6 hlen hv hE
  go_enter Tryz.func40, Tryz.ntmps40
  go_upto_region 1 with fail
  refine wp_region_walk [(0, true), (1, true), (2, true), (3, true), (4, true), (5, false), (6, false), (7, true)] (by kernel_rfl) (by kernel_rfl) (fun _ _ _ _ _ h => h) (by kernel_rfl) (by rfl) ?_
  simp only [List.filterMap_cons, List.filterMap_nil, List.getElem?_toArray, List.getElem?_cons_zero, List.getElem?_cons_succ, Option.map_some]
  repeat (refine wpM_val (by rfl) ?_; intro K hK; go_big_quiet_op; go_big_quiet_on)
  have Y0 : Ext wx wx.drew := (ext_refl wx).draw
  refine wpM_do (by rfl) ?_
  intro K hK
  go_simp
  refine Calls.mono (HKN.out _ Y0) ?_
  rintro e y1 ⟨v1, rfl, ho, hx⟩
  obtain ⟨K1, kc1, rfl, hrd, _⟩ := Rd.owned ho
  have Y1 := Ext.then Y0 hx
  have HRD := hid hrd
  refine hK _ _ Y1 ?_
  clear K hK hx ho hrd
  repeat (refine wpM_val (by rfl) ?_; intro K hK; go_big_quiet_op; go_big_quiet_on)
  refine wpM_do (by rfl) ?_
  intro K hK
  go_simp
  refine Calls.mono (HCK.out _ _ _ Y1 HRD.out) ?_
  rintro e y2 ⟨rfl, hx⟩
  have Y2 := Ext.then Y1 hx
  refine hK _ _ Y2 ?_
  have X2 := hid Y2
  clear K hK hx Y0 Y1 Y2 HRD a0r a1r a0 a1
  repeat (refine wpM_val (by rfl) ?_; intro K hK; go_big_quiet_op; go_big_quiet_on)
  refine wpM_nil ?_
  by_cases h0 : E = 0
  · have HT2 := hid (HTR.out h0)
    subst h0
    have a0 := ext_cell X2.out hp1
    have a1 := (HG.out.keep X2.out).cell 0
    have a2 := (HG.out.keep X2.out).cell 1
    have a0r := cell_regrown a0
    have a1r := cell_regrown a1
    have a2r := cell_regrown a2
    clear HTR HCK HKN
    go_upto_region 4 with fail
    refine wp_region_walk [(0, true), (1, true), (2, true), (3, true), (4, false), (5, true)] (by kernel_rfl) (by kernel_rfl) (fun _ _ _ _ _ h => h) (by kernel_rfl) (by rfl) ?_
    simp only [List.filterMap_cons, List.filterMap_nil, List.getElem?_toArray, List.getElem?_cons_zero, List.getElem?_cons_succ, Option.map_some]
    repeat (refine wpM_val (by rfl) ?_; intro K hK; go_big_quiet_op; go_big_quiet_on)
    refine wpM_do (by rfl) ?_
    intro K hK
    go_simp
    have Y0 : Ext y2 y2.drew := (ext_refl y2).draw
    refine Calls.mono (HT2.out _ (X2.out.then Y0)) ?_
    rintro e w1 ⟨vi, rfl, ho, hx⟩
    obtain ⟨I, ic, rfl, hrd, hI0, _⟩ := Rd.owned ho
    have Y1 := Ext.then Y0 hx
    have HI := hid (own_low' ho (Nat.le_trans HBW.out (X2.out.then Y0).size))
    refine hK _ _ Y1 ?_
    have X3 := hid (X2.out.then Y1)
    clear K hK hx ho hrd a0r a1r a2r a0 a1 a2 Y0 Y1 hI0
    repeat (refine wpM_val (by rfl) ?_; intro K hK; go_big_quiet_op; go_big_quiet_on)
    refine wpM_nil ?_
    have a2 := (HG.out.keep X3.out).cell 1
    have G0 := hid (HG.out.keep X3.out)
    have P1 := hid (own_ext HO1.out X3.out)
    have P2 := hid (own_ext HO2.out X3.out)
    have PO := hid (fun x hx => (HOK.out x hx).ext X3.out)
    have BW0 := hid (Nat.le_trans HBW.out X3.out.size)
    have CH0 := hid (show Chg base g wx w1 from (Chg.refl base g wx).ext HBW.out X3.out)
    clear HO1 HO2 HOK
    go_wp2
    have a2 := True.intro
    go_loopw [6, 7, 31] (fun _ _ ii wr => ∃ k : Nat, k ≤ m ∧ ii = .int .i64 k ∧ ∃ L', Hid (Blk wr g 25 #[.slice A n c, .slice B m d]) ∧ Hid (wr.ownsRow base 39 2 (.slice A n c) n (ens t.1)) ∧ Hid (wr.ownsRow base 45 1 (.slice B m d) m (rws' L')) ∧ Hid (wr.ownsRow base 4 1 (.slice I M ic) M (bls (Tb.trs p t.2 M))) ∧ Hid (L'.map (·.2) = (t.2.take k).map (Tb.kc (Tb.tr p t.2) M) ++ t.2.drop k) ∧ Hid (∀ x ∈ L', RwO wr base x) ∧ Hid (Chg base g wx wr) ∧ Hid (base ≤ wr.heap.size)) (fun _ _ ii _ => m - (intOf ii).toNat)
    case atStart => exact ⟨0, Nat.zero_le _, rfl, L, G0, P1, P2, HI, hid (by rw [HLM.out]; rfl), PO, CH0, BW0⟩
    case round =>
      obtain ⟨k, hk, rfl, L', HF, Q1, Q2, QI, HL', HR', HCH, HBR⟩ := hrel
      by_cases hlt : k < m
      · have hkd : k < t.2.length := by rw [← HM.out]; exact hlt
        have hLl : L'.length = m := by
          have h1 := congrArg List.length HL'.out
          have h2 := HM.out
          simp only [List.length_map, List.length_append, List.length_take, List.length_drop] at h1
          omega
        have hkL : k < L'.length := by omega
        have hlk : L'[k].2 = t.2[k] := by
          have h1 := List.getElem_of_eq HL'.out (i := k) (by rw [List.length_map]; exact hkL)
          rw [List.getElem_map] at h1
          rw [h1]
          exact Tb.keep_get hkd _
        obtain ⟨gb, eB⟩ := own_some Q2.out (by omega)
        obtain ⟨b2, o2, e2, l2, c2⟩ := (own_rd Q2.out).1.rows k hkL
        obtain ⟨rfl, rfl⟩ : b2 = gb ∧ o2 = 0 := by
          rw [eB] at e2; injection e2 with e2; injection e2 with e2 e4; exact ⟨e2.symm, e4.symm⟩
        have r0 := c2 k hkL
        rw [Nat.zero_add] at r0
        have RK := HR'.out _ (List.getElem_mem hkL)
        unfold RwO at RK
        rw [hlk] at RK
        have hrow := HR.out.row _ (List.getElem_mem hkd)
        rw [← HMM.out] at hrow
        have hlkM : L'[k].1.2.1 = M := by
          have h1 := RK.1
          rw [cls_len, hrow] at h1
          omega
        rw [hlkM] at RK r0
        have HRK := hid (own_rd RK).1
        have h128 := HR.out.lim
        rw [← HMM.out] at h128
        have hMI : (M : Int) ≤ 128 := by omega
        have HM128 := hid h128
        have HKS := hid (Tb.keep_step (f := Tb.kc (Tb.tr p t.2) M) hkd)
        have HSL := hid (show L'.length = m from hLl)
        obtain ⟨lc, hlc⟩ : ∃ lc, lc = t.2[k] := ⟨_, rfl⟩
        rw [← hlc] at HRK hrow HKS
        have HLC := hid hrow
        generalize L'[k].1.1 = Ak at *
        generalize L'[k].1.2.2 = ck at *
        have hltI : (k : Int) < (m : Int) := by omega
        have heB := hid eB
        clear hlk hLl hkL c2 e2 l2 RK hlkM h128 hlc hkd hrow eB
        have eB := heB.out
        subst eB
        go_wp2
        go_loopw [8, 9, 38] (fun o _ jj wi => ∃ j : Nat, j ≤ M ∧ jj = .int .i64 j ∧ Hid (wi.ownsRow wr.heap.size 42 3 o (Tb.kc (Tb.tr p t.2) j lc).length (cls (Tb.kc (Tb.tr p t.2) j lc))) ∧ Hid (Ext wr wi)) (fun _ _ jj _ => M - (intOf jj).toNat)
        case atStart => exact ⟨0, Nat.zero_le _, rfl, hid (World.ownsRow_nil _ _ _ _), hid (ext_refl _)⟩
        case round =>
          obtain ⟨j, hj, rfl, HOj, HXj⟩ := hrel
          by_cases hlt2 : j < M
          · have hjl : j < lc.length := by rw [HLC.out]; exact hlt2
            obtain ⟨b3, o3, e3, l3, c3⟩ := HRK.out.cels j hjl
            obtain ⟨q0, q1, q2⟩ := c3 j hjl
            replace q0 := ext_cell HXj.out q0
            replace q1 := ext_cell HXj.out q1
            replace q2 := ext_cell HXj.out q2
            obtain ⟨b4, o4, e4, l4, c4⟩ := (own_rd QI.out).1.bool (by rw [Tb.trs_len]; omega)
            have qb := ext_cell HXj.out (c4 j (by rw [Tb.trs_len]; exact hlt2))
            rw [Tb.trs_get p t.2 M j hlt2] at qb
            have lt4 := block_lt_of_cell qb
            have hKL := Tb.kc_le (Tb.tr p t.2) j lc
            have hltJ : (j : Int) < (M : Int) := by omega
            obtain ⟨KK, hKK⟩ : ∃ KK, KK = Tb.kc (Tb.tr p t.2) j lc := ⟨_, rfl⟩
            obtain ⟨pp, hpp⟩ : ∃ pp, pp = KK.length := ⟨_, rfl⟩
            have HPP := hid hpp
            rw [← hKK, ← hpp] at HOj
            rw [← hKK, ← hpp] at hKL
            have HKK := hid hKK
            have HPL := hid (show pp ≤ 128 by have := HM128.out; omega)
            have he3 := hid e3
            have he4 := hid e4
            by_cases hT : Tb.tr p t.2 j = true
            · have HST := hid (Tb.kc_yes (f := Tb.tr p t.2) hjl hT)
              rw [← hKK] at HST
              rw [hT] at qb
              generalize lc[j] = x at *
              obtain ⟨y, z, s⟩ := x
              simp only at q0 q1 q2
              clear c3 c4 l3 l4 e3 e4 hKK hpp hT hjl hKL
              have e3 := he3.out
              have e4 := he4.out
              subst e3 e4
              go_wp2_with (at_builtin; go_loud (refine wpList_app rfl (.tmp 47) (.tmp 49) rowCe rfl _ pp (cls KK) rfl (own_ext HOj.out (Ext.new (Ext.new (ext_refl _) _) _)) _ 1 (cls [(y, z, s)]) rfl (Src.rd Tryz.underlying45 _ 1 1 _ rfl (rd_lit (by simp) rfl) (cls_one _) (fun h => by cases h)) (by have := HPL.out; simp only [maxLen] at *; omega) (by have := HPL.out; omega) (by have := HXj.out.size; simp; omega) ?_; intro v' w9 hown9 hgrow hat hbel; have HO9 := hid hown9; have XB9 := hid (Below.trans (Below.mono (Ext.new (Ext.new (ext_refl wr) (.cells #[.int .i64 y, .int .u64 (z : Nat), .string s] 42)) (.cells #[.int .i64 y, .int .u64 (z : Nat), .string s] 42)) HXj.out.size) hbel); clear hown9 hgrow hat hbel))
              go_roundw
              case rel => exact ⟨j + 1, by omega, by go_num, by rw [HST.out, List.length_append, ← HPP.out, cls_app]; exact HO9, hid (Below.trans HXj.out XB9.out)⟩
              case measure => simp [intOf]; omega
            · have hTf : Tb.tr p t.2 j = false := by simpa using hT
              have HST := hid (Tb.kc_no (n := j) (l := lc) hTf)
              rw [← hKK] at HST
              rw [hTf] at qb
              generalize lc[j] = x at *
              obtain ⟨y, z, s⟩ := x
              simp only at q0 q1 q2
              clear c3 c4 l3 l4 e3 e4 hKK hpp hT hTf hjl hKL
              have e3 := he3.out
              have e4 := he4.out
              subst e3 e4
              have XN1 := hid (Ext.new HXj.out (.cells #[.int .i64 y, .int .u64 (z : Nat), .string s] 42))
              have HON := hid (own_ext HOj.out (Ext.new (ext_refl wr) (.cells #[.int .i64 y, .int .u64 (z : Nat), .string s] 42)))
              go_wp2
              go_roundw
              case rel => exact ⟨j + 1, by omega, by go_num, by rw [HST.out, ← HPP.out]; exact HON, XN1⟩
              case measure => simp [intOf]; omega
          · obtain rfl : M = j := by omega
            obtain ⟨KK, hKK⟩ : ∃ KK, KK = Tb.kc (Tb.tr p t.2) M lc := ⟨_, rfl⟩
            rw [← hKK] at HOj HKS
            obtain ⟨pp, hpp⟩ : ∃ pp, pp = KK.length := ⟨_, rfl⟩
            rw [← hpp] at HOj
            obtain ⟨C, cc, rfl, _⟩ := Rd.owned HOj.out
            have F2 := hid (HF.out.keep HXj.out)
            have U1 := hid (own_ext Q1.out HXj.out)
            have U2 := hid (own_ext Q2.out HXj.out)
            have UI := hid (own_ext QI.out HXj.out)
            have UR := hid (fun x hx => (HR'.out x hx).ext HXj.out)
            have UO := hid (own_low' HOj.out HBR.out)
            have r1 := ext_cell HXj.out r0
            have f1 := F2.out.cell 1
            obtain ⟨_, _, cur, hcur', _⟩ := own_cur U2.out
            have hcur : Blk wr b2 45 cur := hcur'
            have fz := Blk.frozen hcur k
            have HCU := hid hcur
            have HGB2 := hid (own_cur U2.out).1
            clear hKK hpp hcur hcur' r0
            go_wp2
            have hbU : ∀ {e : TypeId} {size : Nat} {u : Value} {q : Nat} {xs : List Value}, wr.ownsRow base e size u q xs → e ≠ 45 → (wr.setCell ⟨b2, k, none⟩ (.slice C pp cc)).ownsRow base e size u q xs := fun h he => own_put h (p := ⟨b2, k, none⟩) (own_nblk h HCU.out he) _
            go_roundw
            case rel =>
              refine ⟨k + 1, by omega, by go_num, L'.set k ((C, pp, cc), KK), hid (F2.out.far (p := ⟨b2, k, none⟩) (by have h1 := HGB2.out; have h2 := HGB.out; simp only; omega) _), hid (hbU U1.out (by decide)), hid ?_, hid (hbU UI.out (by decide)), hid ?_, hid ?_, hid ?_, hid ?_⟩
              · rw [← rws_set]; exact own_set U2.out rfl k _
              · rw [List.map_set, HL'.out, HKS.out]
              · intro x hx
                rcases List.mem_or_eq_of_mem_set hx with hx | rfl
                · exact hbU (UR.out x hx) (by decide)
                · exact hbU UO.out (by decide)
              · exact Chg.put (HCH.out.ext HBR.out HXj.out) ⟨b2, k, none⟩ (.inr HGB2.out) _
              · rw [size_put]; exact Nat.le_trans HBR.out HXj.out.size
            case measure => simp [intOf]; omega
      · obtain rfl : m = k := by omega
        go_wp2
        go_returns
        refine ⟨rfl, TbG.mk' (t := Tb.keepT t p) HN.out (by rw [HM.out]; simp [Tb.keepT]) HF.out Q1.out Q2.out ?_ HR'.out, HCH.out⟩
        rw [HL'.out, List.take_of_length_le (by rw [← HM.out]; exact Nat.le_refl _), List.drop_of_length_le (by rw [← HM.out]; exact Nat.le_refl _), List.append_nil, HMM.out]; rfl
  · have e1 : ((E : Int) == 0) = false := beq_eq_false_iff_ne.2 (by omega)
    have e2 : ((E : Int) != 0) = true := by simp; omega
    have HE := hid h0
    clear h0
    go_wp2
    go_returns
    exact ⟨rfl, fun h => absurd h HE.out, (Chg.refl base g wx).ext HBW.out X2.out⟩
end Go.Proofs.YtolhifnlahllnaaGreatDoor
end
section
namespace Go.Proofs.YtolhifnlahllnaaGreatDoor
open Go.RowKit Hy
theorem blk_at {w : World} {g : Nat} (t : TypeId) (cs : Array Value) (h : g = w.heap.size) : Blk (w.alloc (.cells cs t)) g t cs := by subst h; exact Blk.new _ _ _
theorem right_len {t : Tb.Tab} (h : Tb.tbck t = 0) : t.1.length ≤ 1000 ∧ t.2.length ≤ 1000 ∧ ∀ l ∈ t.2, l.length ≤ 1000 := by
  have hR := (Tb.right_iff t).1 h
  have h6 := hR.six
  have hl := hR.len
  have hm := hR.lim
  exact ⟨by omega, by omega, fun l hx => by rw [hR.row l hx]; omega⟩
set_option maxHeartbeats 3200000 in
set_option maxRecDepth 100000 in
theorem keep_any (t : Tb.Tab) (p : List Cnd) (P : Option Addr) (np pcap : Nat) (v : Value) (w : World) (hv : TbV w v t) (hb : TbB t) (hpn : p.length = np) (hp : Rd w P (cns p)) (hnl : np ≤ 140737488355328) :
    Calls Tryz.prog 7 #[v, .slice P np pcap] w fun e w' => ∃ v', e = .returned (.tuple #[v', .int .i64 ((Tb.keepE t p : Nat) : Int)]) ∧ TbL w' w.heap.size v' (Tb.res (Tb.keepE t p) (Tb.keepT t p)) ∧ Ext w w' := by
  have HV := hid hv
  have HB := hid hb
  obtain ⟨A, n, c, B, m, d, rfl⟩ := hv.shape
  obtain ⟨R, hR⟩ : ∃ R, R = Tb.keepE t p := ⟨_, rfl⟩
  rw [← hR]
  have HR := hid hR
  have HCALL := hid (fun wz (XZ : Ext w wz) (BX1 : Blk wz (w.heap.size + 1) 26 #[.slice P np pcap]) => changed_keep t (Tb.keepT t p) (Cnd.chk (Tb.knds t.1) p) (w.heap.size + 1) _ wz (hv.keep XZ) hb right_len (fun h0 base g wx hx hg hgb hbw ht => keepC_any t p base g (w.heap.size + 1) P np pcap wx ht hbw ((Tb.right_iff t).1 h0) hb (ext_cell hx (BX1.cell 0)) hpn (hp.keep (XZ.then hx)) hnl))
  rw [show (if Tb.tbck t ≠ 0 then Tb.tbck t else Cnd.chk (Tb.knds t.1) p) = R by rw [hR]; unfold Tb.keepE; rfl] at HCALL
  obtain ⟨TT, hTT⟩ : ∃ TT, TT = Tb.keepT t p := ⟨_, rfl⟩
  rw [← hTT] at HCALL ⊢
  clear hv hb hR hTT hpn hp hnl
  go_enter Tryz.func7, Tryz.ntmps7
  go_upto_region 1 with fail
  refine wp_gen (fun w' => Ext w w' ∧ Blk w' (w.heap.size) 25 #[.slice A n c, .slice B m d] ∧ Blk w' (w.heap.size + 1) 26 #[.slice P np pcap] ∧ Blk w' (w.heap.size + 1 + 1) 25 #[.slice none 0 0, .slice none 0 0]) ⟨((((ext_refl _).new _).new _).new _), (((blk_at _ _ (by simp)).alloc _).alloc _), ((blk_at _ _ (by simp)).alloc _), (blk_at _ _ (by simp))⟩ ?_
  rintro wz ⟨XZ0, B0, B1, B2⟩
  have XZ : Hid (Ext w wz) := hid XZ0
  have p0 := B0.cell 0
  have p1 := B0.cell 1
  have HRB := hid B2
  have HL2 := hid HRB.out.lt
  have HX1 := hid B1
  clear XZ0 B0 B1 B2
  go_wp2_with fail
  refine Calls.mono (HCALL.out _ XZ.out HX1.out) ?_
  rintro e w1 ⟨v', rfl, hl, hx⟩
  obtain ⟨A5, n5, c5, D5, m5, d5, rfl⟩ := hl.V.shape
  have HL := hid hl
  have X1 := hid (XZ.out.then hx)
  have R4 := hid (HRB.out.keep hx)
  clear p0 p1 hl hx
  have q0 := R4.out.cell 0
  have q1 := R4.out.cell 1
  have f0 := R4.out.frozen 0
  have f1 := R4.out.frozen 1
  go_wp2
  have HBF := hid (((R4.out.set 0 (.slice A5 n5 c5)).set 1 (.slice D5 m5 d5)).cast (cs' := #[.slice A5 n5 c5, .slice D5 m5 d5]) (by simp))
  have XF := hid (Ext.put (Ext.put X1.out (p := ⟨w.heap.size + 1 + 1, 0, none⟩) (by simp only; omega) (.slice A5 n5 c5)) (p := ⟨w.heap.size + 1 + 1, 1, none⟩) (by simp only; omega) (.slice D5 m5 d5))
  refine bodyPost_ret (results_blk2 rfl _ _ (w.heap.size + 1 + 1) 25 _ _ rfl HBF.out Tryz.underlying25 rfl (by kernel_rfl)) rfl ?_
  exact ⟨_, rfl, ((HL.out.put (p := ⟨w.heap.size + 1 + 1, 0, none⟩) HL2.out _).put (p := ⟨w.heap.size + 1 + 1, 1, none⟩) HL2.out _).low XZ.out.size, XF.out⟩
end Go.Proofs.YtolhifnlahllnaaGreatDoor
end
section
namespace Hy
open Go Go.RowKit
theorem Chg.cell {base g : Nat} {w w' : World} (h : Chg base g w w') {p : Addr} {v : Value} (hc : w.cell? p = some v) (hb : p.block < base) (hn : p.block ≠ g) : w'.cell? p = some v := by
  unfold World.cell? at hc ⊢
  rw [h.block _ hb hn]; exact hc
end Hy
namespace Hy.Tb
theorem slice_min {l : List Cel} {M : Nat} (a b : Nat) (h : l.length = M) : (l.drop (min a M)).take (min b (M - min a M)) = (l.drop a).take b := by
  rcases Nat.le_total a M with h1 | h1
  · rw [Nat.min_eq_left h1]
    rcases Nat.le_total b (M - a) with h2 | h2
    · rw [Nat.min_eq_left h2]
    · rw [Nat.min_eq_right h2, List.take_of_length_le (by rw [List.length_drop]; omega), List.take_of_length_le (by rw [List.length_drop]; omega)]
  · rw [Nat.min_eq_right h1, List.drop_of_length_le (by omega), List.drop_of_length_le (by omega)]
    simp
end Hy.Tb
namespace Go.Proofs.YtolhifnlahllnaaGreatDoor
open Go.RowKit Hy
theorem sliceC_no (x y : Int) (base g h1 h2 : Nat) (wx : World) (hp1 : wx.cell? ⟨h1, 0, none⟩ = some (.int .i64 x)) (hp2 : wx.cell? ⟨h2, 0, none⟩ = some (.int .i64 y)) (hno : x < 0 ∨ y < 0) :
    Calls Tryz.prog 44 #[.pointer (some ⟨g, 0, none⟩), .pointer (some ⟨h1, 0, none⟩), .pointer (some ⟨h2, 0, none⟩)] wx fun e w' => e = .returned (.int .i64 3) ∧ Chg base g wx w' := by
  by_cases hx : x < 0
  · clear hno
    go_enter Tryz.func44, Tryz.ntmps44
    go_wp2
    go_returns
    exact ⟨rfl, Chg.refl _ _ _⟩
  · have hy : y < 0 := by omega
    clear hno
    go_enter Tryz.func44, Tryz.ntmps44
    go_wp2
    go_returns
    exact ⟨rfl, Chg.refl _ _ _⟩
set_option maxHeartbeats 6400000 in
set_option maxRecDepth 100000 in
theorem sliceC_yes (t : Tb.Tab) (a b : Nat) (base g h1 h2 : Nat) (wx : World) (ht : TbO wx base g t) (hbw : base ≤ wx.heap.size) (hR : Tb.Right t) (hp1 : wx.cell? ⟨h1, 0, none⟩ = some (.int .i64 (a : Int))) (hp2 : wx.cell? ⟨h2, 0, none⟩ = some (.int .i64 (b : Int))) (hb1 : h1 < base) (hb2 : h2 < base) (hg1 : h1 ≠ g) (hg2 : h2 ≠ g) :
    Calls Tryz.prog 44 #[.pointer (some ⟨g, 0, none⟩), .pointer (some ⟨h1, 0, none⟩), .pointer (some ⟨h2, 0, none⟩)] wx fun e w' => e = .returned (.int .i64 0) ∧ TbG w' base g (Tb.sliceT t a b) ∧ Chg base g wx w' := by
  obtain ⟨A, c, B, d, L, hg, hgb, o1, o2, hL, hok, hpw⟩ := ht.parts
  obtain ⟨n, hn⟩ : ∃ n, n = t.1.length := ⟨_, rfl⟩
  obtain ⟨m, hm⟩ : ∃ n, n = t.2.length := ⟨_, rfl⟩
  have h6 := hR.six
  have hlen := hR.len
  rw [← hn] at hg o1
  rw [← hm] at hg o2
  obtain ⟨M, hM⟩ : ∃ M, M = Tb.many t := ⟨_, rfl⟩
  obtain ⟨f, hf⟩ : ∃ f, f = min a M := ⟨_, rfl⟩
  obtain ⟨q, hq⟩ : ∃ q, q = min b (M - f) := ⟨_, rfl⟩
  have h128 := hR.lim
  rw [← hM] at h128
  have HG := hid hg
  have HGB := hid hgb; have HBW := hid hbw
  have HN := hid hn; have HM := hid hm
  have HLM := hid hL; have HR := hid hR
  have HH1 := hid hp1; have HH2 := hid hp2
  have HM6 := hid (show m ≤ 6 by omega)
  have hmI : (m : Int) ≤ 6 := by omega
  have HMM := hid hM
  have HF := hid hf; have HQ := hid hq
  have HM128 := hid h128
  have hMI : (M : Int) ≤ 128 := by omega
  have haI : (0 : Int) ≤ (a : Int) := by omega
  have hbI : (0 : Int) ≤ (b : Int) := by omega
  have a1 := hg.cell 1
  have CH0 := hid (Chg.refl base g wx)
  have P1 := hid o1; have P2 := hid o2; have PO := hid hok
  have HX := hid (⟨hb1, hb2, hg1, hg2⟩ : h1 < base ∧ h2 < base ∧ h1 ≠ g ∧ h2 ≠ g)
  clear ht hR hg hgb hbw o1 o2 hL hok hpw hn hm h6 hlen hM h128 hb1 hb2 hg1 hg2 hf hq
  go_enter Tryz.func44, Tryz.ntmps44
  go_wp2
  have hp1 := True.intro
  have hp2 := True.intro
  have a1 := True.intro
  go_loopw [5, 6, 18] (fun _ _ ii wr => ∃ k : Nat, k ≤ m ∧ ii = .int .i64 k ∧ ∃ L', Hid (Blk wr g 25 #[.slice A n c, .slice B m d]) ∧ Hid (wr.ownsRow base 39 2 (.slice A n c) n (ens t.1)) ∧ Hid (wr.ownsRow base 45 1 (.slice B m d) m (rws' L')) ∧ Hid (L'.map (·.2) = (t.2.take k).map (fun l => (l.drop a).take b) ++ t.2.drop k) ∧ Hid (∀ x ∈ L', RwO wr base x) ∧ Hid (Chg base g wx wr) ∧ Hid (base ≤ wr.heap.size)) (fun _ _ ii _ => m - (intOf ii).toNat)
  case atStart => exact ⟨0, Nat.zero_le _, rfl, L, HG, P1, P2, hid (by rw [HLM.out]; rfl), PO, CH0, HBW⟩
  case round =>
    obtain ⟨k, hk, rfl, L', HFB, Q1, Q2, HL', HR', HCH, HBR⟩ := hrel
    by_cases hlt : k < m
    · have hkd : k < t.2.length := by rw [← HM.out]; exact hlt
      have hLl : L'.length = m := by
        have h1 := congrArg List.length HL'.out
        have h2 := HM.out
        simp only [List.length_map, List.length_append, List.length_take, List.length_drop] at h1
        omega
      have hkL : k < L'.length := by omega
      have hlk : L'[k].2 = t.2[k] := by
        have h1 := List.getElem_of_eq HL'.out (i := k) (by rw [List.length_map]; exact hkL)
        rw [List.getElem_map] at h1
        rw [h1]
        exact Tb.keep_get hkd _
      obtain ⟨gb, eB⟩ := own_some Q2.out (by omega)
      obtain ⟨b2, o2, e2, l2, c2⟩ := (own_rd Q2.out).1.rows k hkL
      obtain ⟨rfl, rfl⟩ : b2 = gb ∧ o2 = 0 := by
        rw [eB] at e2; injection e2 with e2; injection e2 with e2 e4; exact ⟨e2.symm, e4.symm⟩
      have r0 := c2 k hkL
      rw [Nat.zero_add] at r0
      have RK := HR'.out _ (List.getElem_mem hkL)
      unfold RwO at RK
      rw [hlk] at RK
      have hrow := HR.out.row _ (List.getElem_mem hkd)
      rw [← HMM.out] at hrow
      have hlkM : L'[k].1.2.1 = M := by
        have h1 := RK.1
        rw [cls_len, hrow] at h1
        omega
      rw [hlkM] at RK r0
      obtain ⟨hrk, hz, hcap⟩ := own_rd RK
      have HKS := hid (Tb.keep_step (f := fun l => (l.drop a).take b) hkd)
      obtain ⟨lc, hlc⟩ : ∃ lc, lc = t.2[k] := ⟨_, rfl⟩
      rw [← hlc] at hrk hrow HKS
      generalize L'[k].1.1 = Ak at *
      generalize L'[k].1.2.2 = ck at *
      have hq1 := HQ.out
      have hf1 := HF.out
      have HS1 := hid (sl_from (P := Tryz.prog) (t := 45) (m := 3) Tryz.underlying45 (by kernel_rfl) Ak M ck .i64 f (by omega))
      have HS2 := hid (sl_to (P := Tryz.prog) (t := 45) (m := 3) Tryz.underlying45 (by kernel_rfl) (slF Ak f ck 3) (M - f) (ck - f) .i64 q (by omega))
      have hqm : (lc.drop f).take q = (lc.drop a).take b := by rw [hq1, hf1]; exact Tb.slice_min a b hrow
      have HCL := hid (fun wy (hx : Ext wr wy) => cloneX_any ((lc.drop a).take b) (slF Ak f ck 3) q (ck - f) wy (by rw [← hqm, List.length_take, List.length_drop, hrow]; omega) (by
        have h1 := Rd.from (f := cel3) (m := 3) (fun _ => rfl) hrk f ck (by rw [hrow]; exact hcap)
        have h2 := Rd.take h1 q
        rw [hqm] at h2
        exact Rd.keep h2 hx) (fun h => by
        have : Ak = none := by
          unfold slF at h
          split at h
          · exact h
          · cases Ak with
            | none => rfl
            | some x => cases h
        have := hz this
        omega) (by have := HM128.out; omega))
      have HSL := hid (show L'.length = m from hLl)
      have mi1 : min (a : Int) (M : Int) = (f : Int) := by omega
      obtain ⟨M2, hM2⟩ : ∃ M2, M2 = M - f := ⟨_, rfl⟩
      obtain ⟨A2, hA2⟩ : ∃ A2, A2 = slF Ak f ck 3 := ⟨_, rfl⟩
      obtain ⟨cc2, hcc2⟩ : ∃ c2, c2 = ck - f := ⟨_, rfl⟩
      rw [← hM2, ← hA2, ← hcc2] at HS1 HS2
      rw [← hA2, ← hcc2] at HCL
      have mi2 : min (b : Int) (M2 : Int) = (q : Int) := by omega
      clear hM2 hA2 hcc2
      have hltI : (k : Int) < (m : Int) := by omega
      have heB := hid eB
      have i1 := HCH.out.cell HH1.out HX.out.1 HX.out.2.2.1
      have i2 := HCH.out.cell HH2.out HX.out.2.1 HX.out.2.2.2
      clear hlk hLl hkL c2 e2 l2 RK hlkM hlc hkd hrow eB hrk hz hcap hqm hq1 hf1
      have eB := heB.out
      subst eB
      have sl1 := HS1.out
      have sl2 := HS2.out
      go_upto_region 7 with fail
      have a1 := HFB.out.cell 1
      have a1r := cell_regrown a1
      have i2r := cell_regrown i2
      refine wp_region_late [13] [] [(0, true), (1, true), (2, true), (3, true), (4, true), (5, true), (6, true), (7, true), (8, false), (9, false), (10, true), (11, false), (12, true), (13, false)] (by kernel_rfl) (by kernel_rfl) (fun _ _ _ _ _ h => h) (by kernel_rfl) (by rfl) ?_
      simp only [List.filterMap_cons, List.filterMap_nil, List.getElem?_toArray, List.getElem?_cons_zero, List.getElem?_cons_succ, Option.map_some, List.contains_cons, List.contains_nil, Nat.reduceBEq, Bool.or_false]
      repeat (refine wpL_val (by rfl) ?_; intro K hK; go_big_quiet_op; go_big_quiet_on)
      have Y0 : Ext wr wr.drew := (ext_refl wr).draw
      refine wpL_do (by rfl) ?_
      intro K hK
      go_simp
      refine hK _ _ Y0 ?_
      clear K hK
      refine wpL_do (by rfl) ?_
      intro K hK
      go_simp
      refine hK _ _ Y0 ?_
      clear K hK
      repeat (refine wpL_val (by rfl) ?_; intro K hK; go_big_quiet_op; go_big_quiet_on)
      refine wpL_do (by rfl) ?_
      intro K hK
      go_simp
      refine Calls.mono (HCL.out _ Y0) ?_
      rintro e y1 ⟨C, cc, rfl, ho, hx⟩
      have Y1 := hid (Ext.then Y0 hx)
      have UO := hid (own_low' ho (Nat.le_trans HBR.out Y0.size))
      refine hK _ _ Y1.out ?_
      clear K hK hx ho Y0
      repeat (refine wpL_val (by rfl) ?_; intro K hK; go_big_quiet_op; go_big_quiet_on)
      have F2 := hid (HFB.out.keep Y1.out)
      have U1 := hid (own_ext Q1.out Y1.out)
      have U2 := hid (own_ext Q2.out Y1.out)
      have UR := hid (fun x hx => (HR'.out x hx).ext Y1.out)
      have r1 := ext_cell Y1.out r0
      obtain ⟨_, _, cur, hcur', _⟩ := own_cur U2.out
      have hcur : Blk y1 b2 45 cur := hcur'
      have fz := Blk.frozen hcur k
      have HCU := hid hcur
      have HGB2 := hid (own_cur U2.out).1
      clear hcur hcur' r0 a1 a1r i2r i1 i2
      refine wpL_late (by rfl) ?_
      intro K hK
      go_simp
      refine hK _ _ ?_
      clear K hK
      refine wpL_nil ?_
      go_wp2
      have hbU : ∀ {e : TypeId} {size : Nat} {u : Value} {q' : Nat} {xs : List Value}, y1.ownsRow base e size u q' xs → e ≠ 45 → (y1.setCell ⟨b2, k, none⟩ (.slice C q cc)).ownsRow base e size u q' xs := fun h he => own_put h (p := ⟨b2, k, none⟩) (own_nblk h HCU.out he) _
      go_roundw
      case rel =>
        refine ⟨k + 1, by omega, by go_num, L'.set k ((C, q, cc), (lc.drop a).take b), hid (F2.out.far (p := ⟨b2, k, none⟩) (by have h1 := HGB2.out; have h2 := HGB.out; simp only; omega) _), hid (hbU U1.out (by decide)), hid ?_, hid ?_, hid ?_, hid ?_, hid ?_⟩
        · rw [← rws_set]; exact own_set U2.out rfl k _
        · rw [List.map_set, HL'.out]; exact HKS.out
        · intro x hx
          rcases List.mem_or_eq_of_mem_set hx with hx | rfl
          · exact hbU (UR.out x hx) (by decide)
          · exact hbU UO.out (by decide)
        · exact Chg.put (HCH.out.ext HBR.out Y1.out) ⟨b2, k, none⟩ (.inr HGB2.out) _
        · rw [size_put]; exact Nat.le_trans HBR.out Y1.out.size
      case measure => simp [intOf]; omega
    · obtain rfl : m = k := by omega
      go_wp2
      go_returns
      refine ⟨rfl, TbG.mk' (t := Tb.sliceT t a b) HN.out (by rw [HM.out]; simp [Tb.sliceT]) HFB.out Q1.out Q2.out ?_ HR'.out, HCH.out⟩
      rw [HL'.out, List.take_of_length_le (by rw [← HM.out]; exact Nat.le_refl _), List.drop_of_length_le (by rw [← HM.out]; exact Nat.le_refl _), List.append_nil]
      simp [Tb.sliceT]
theorem sliceC_any (t : Tb.Tab) (x y : Int) (base g h1 h2 : Nat) (wx : World) (ht : TbO wx base g t) (hbw : base ≤ wx.heap.size) (hR : Tb.Right t) (hp1 : wx.cell? ⟨h1, 0, none⟩ = some (.int .i64 x)) (hp2 : wx.cell? ⟨h2, 0, none⟩ = some (.int .i64 y)) (hb1 : h1 < base) (hb2 : h2 < base) (hg1 : h1 ≠ g) (hg2 : h2 ≠ g) :
    Calls Tryz.prog 44 #[.pointer (some ⟨g, 0, none⟩), .pointer (some ⟨h1, 0, none⟩), .pointer (some ⟨h2, 0, none⟩)] wx fun e w' => e = .returned (.int .i64 ((if x < 0 ∨ y < 0 then 3 else 0 : Nat) : Int)) ∧ ((if x < 0 ∨ y < 0 then 3 else 0 : Nat) = 0 → TbG w' base g (Tb.sliceT t x y)) ∧ Chg base g wx w' := by
  by_cases h : x < 0 ∨ y < 0
  · rw [if_pos h]
    refine Calls.mono (sliceC_no x y base g h1 h2 wx hp1 hp2 h) ?_
    rintro e w' ⟨rfl, hx⟩
    exact ⟨rfl, fun h => absurd h (by decide), hx⟩
  · rw [if_neg h]
    obtain ⟨a, rfl⟩ : ∃ a : Nat, x = a := ⟨x.toNat, by omega⟩
    obtain ⟨b, rfl⟩ : ∃ b : Nat, y = b := ⟨y.toNat, by omega⟩
    refine Calls.mono (sliceC_yes t a b base g h1 h2 wx ht hbw hR hp1 hp2 hb1 hb2 hg1 hg2) ?_
    rintro e w' ⟨rfl, hg, hx⟩
    exact ⟨rfl, fun _ => hg, hx⟩
end Go.Proofs.YtolhifnlahllnaaGreatDoor
end
section
namespace Hy.Tb
def sameC (a b : List Ent) : Bool := decide (a = b)
theorem takeStep {α : Type} (a b : List α) (k : Nat) (h1 : k < a.length) (h2 : k < b.length) (ht : a.take k = b.take k) (e : a[k] = b[k]) : a.take (k + 1) = b.take (k + 1) := by
  rw [List.take_succ_eq_append_getElem h1, List.take_succ_eq_append_getElem h2, ht, e]
end Hy.Tb
namespace Go.Proofs.YtolhifnlahllnaaGreatDoor
open Go.RowKit Hy
set_option maxHeartbeats 1600000 in
set_option maxRecDepth 100000 in
theorem sameC_any (a b : List Ent) (A B : Option Addr) (n m ca cb : Nat) (w : World) (hn : a.length = n) (ha : Rd w A (ens a)) (hm : b.length = m) (hb : Rd w B (ens b)) (hnl : n ≤ 140737488355328) :
    Calls Tryz.prog 52 #[.slice A n ca, .slice B m cb] w fun e w' => e = .returned (.bool (Tb.sameC a b)) ∧ Ext w w' := by
  by_cases hl : n = m
  · subst hl
    have HA := hid ha; have HB := hid hb; have HN := hid hn; have HM := hid hm
    have hnI : (n : Int) ≤ 140737488355328 := by omega
    clear ha hb hn hm hnl
    go_enter Tryz.func52, Tryz.ntmps52
    go_wp2
    go_loopw [5] (fun i wr => ∃ k : Nat, k ≤ n ∧ i = .int .i64 k ∧ a.take k = b.take k ∧ Hid (Ext w wr)) (fun i _ => n - (intOf i).toNat)
    case atStart => exact ⟨0, Nat.zero_le _, rfl, rfl, hid (ext_refl _)⟩
    case round =>
      obtain ⟨k, hk, rfl, ht, X⟩ := hrel
      have HT := hid ht
      clear ht
      by_cases hlt : k < n
      · have h1 : k < a.length := by rw [HN.out]; exact hlt
        have h2 : k < b.length := by rw [HM.out]; exact hlt
        obtain ⟨b1, o1, e1, l1, c1⟩ := HA.out.ents k h1
        obtain ⟨b2, o2, e2, l2, c2⟩ := HB.out.ents k h2
        subst e1 e2
        have d1 := ext_cell X.out (c1 k h1).1
        have f1 := ext_cell X.out (c1 k h1).2
        have d2 := ext_cell X.out (c2 k h2).1
        have f2 := ext_cell X.out (c2 k h2).2
        have HE := hid (Tb.takeStep a b k h1 h2 HT.out)
        have HD := hid (show a[k] ≠ b[k] → Tb.sameC a b = false from fun h => by unfold Tb.sameC; rw [decide_eq_false_iff_not]; rintro rfl; exact h rfl)
        have hkI : (k : Int) < (n : Int) := by omega
        clear c1 c2 l1 l2
        generalize a[k] = x at *
        generalize b[k] = y at *
        clear h1 h2
        obtain ⟨s, u⟩ := x
        obtain ⟨t, v⟩ := y
        simp only at d1 f1 d2 f2
        by_cases hxy : s = t
        · subst hxy
          by_cases h2 : u = v
          · subst h2
            have HT2 := hid (HE.out rfl)
            clear HE HD
            go_wp2_with fail
            go_quiet (fail)
            go_wp2
            go_roundw
            case rel => exact ⟨k + 1, by omega, by go_num, HT2.out, hid (X.out.draws _)⟩
            case measure => simp [intOf] <;> omega
          · have n2 : (u == v) = false := beq_eq_false_iff_ne.2 h2
            have HD2 := hid (HD.out fun e => h2 (Prod.mk.inj e).2)
            clear HE HD h2
            go_wp2_with fail
            go_quiet (fail)
            go_wp2
            go_returns
            exact ⟨by rw [HD2.out]; rfl, X.out.draws _⟩
        · have n1 := Tb.tl_ne hxy
          have HD2 := hid (HD.out fun e => hxy (Prod.mk.inj e).1)
          clear HE HD hxy
          go_wp2_with fail
          go_quiet (fail)
          go_wp2
          go_returns
          exact ⟨by rw [HD2.out]; rfl, X.out.draws _⟩
      · obtain rfl : k = n := by omega
        go_wp2
        go_returns
        refine ⟨?_, X.out⟩
        have := HT.out
        rw [List.take_of_length_le (by rw [HN.out]; exact Nat.le_refl _), List.take_of_length_le (by rw [HM.out]; exact Nat.le_refl _)] at this
        subst this
        simp [Tb.sameC]
  · have hf : Tb.sameC a b = false := by unfold Tb.sameC; rw [decide_eq_false_iff_not]; rintro rfl; omega
    have h3 : ((n : Int) == (m : Int)) = false := by rw [beq_eq_false_iff_ne]; omega
    have h4 : ((n : Int) != (m : Int)) = true := by rw [bne_iff_ne]; omega
    rw [hf]
    clear ha hb hn hm hnl hl hf
    go_enter Tryz.func52, Tryz.ntmps52
    go_wp2
    go_returns
    exact ⟨rfl, ext_refl _⟩
set_option maxHeartbeats 1600000 in
set_option maxRecDepth 100000 in
theorem equalC_any (a b : List Ent) (A B : Option Addr) (n m ca cb : Nat) (w : World) (hn : a.length = n) (ha : Rd w A (ens a)) (hm : b.length = m) (hb : Rd w B (ens b)) (hnl : n ≤ 140737488355328) :
    Calls Tryz.prog 47 #[.slice A n ca, .slice B m cb] w fun e w' => e = .returned (.bool (Tb.sameC a b)) ∧ Ext w w' := by
  by_cases hl : n = m
  · subst hl
    have HA := hid ha; have HB := hid hb; have HN := hid hn; have HM := hid hm
    have hnI : (n : Int) ≤ 140737488355328 := by omega
    clear ha hb hn hm hnl
    go_enter Tryz.func47, Tryz.ntmps47
    go_wp2
    go_loopw [5, 13] (fun _ i wr => ∃ k : Nat, k ≤ n ∧ i = .int .i64 k ∧ a.take k = b.take k ∧ Hid (Ext w wr)) (fun _ i _ => n - (intOf i).toNat)
    case atStart => exact ⟨0, Nat.zero_le _, rfl, rfl, hid (ext_refl _)⟩
    case round =>
      obtain ⟨k, hk, rfl, ht, X⟩ := hrel
      have HT := hid ht
      clear ht
      by_cases hlt : k < n
      · have h1 : k < a.length := by rw [HN.out]; exact hlt
        have h2 : k < b.length := by rw [HM.out]; exact hlt
        obtain ⟨b1, o1, e1, l1, c1⟩ := HA.out.ents k h1
        obtain ⟨b2, o2, e2, l2, c2⟩ := HB.out.ents k h2
        subst e1 e2
        have d1 := ext_cell X.out (c1 k h1).1
        have f1 := ext_cell X.out (c1 k h1).2
        have d2 := ext_cell X.out (c2 k h2).1
        have f2 := ext_cell X.out (c2 k h2).2
        have HE := hid (Tb.takeStep a b k h1 h2 HT.out)
        have HD := hid (show a[k] ≠ b[k] → Tb.sameC a b = false from fun h => by unfold Tb.sameC; rw [decide_eq_false_iff_not]; rintro rfl; exact h rfl)
        have hkI : (k : Int) < (n : Int) := by omega
        clear c1 c2 l1 l2
        generalize a[k] = x at *
        generalize b[k] = y at *
        clear h1 h2
        obtain ⟨s, u⟩ := x
        obtain ⟨t, v⟩ := y
        simp only at d1 f1 d2 f2
        by_cases hxy : s = t
        · subst hxy
          by_cases h2 : u = v
          · subst h2
            have HT2 := hid (HE.out rfl)
            clear HE HD
            go_wp2_with fail
            go_quiet (fail)
            go_wp2
            go_roundw
            case rel => exact ⟨k + 1, by omega, by go_num, HT2.out, hid (X.out.draws _)⟩
            case measure => simp [intOf] <;> omega
          · have n2 : (u == v) = false := beq_eq_false_iff_ne.2 h2
            have HD2 := hid (HD.out fun e => h2 (Prod.mk.inj e).2)
            clear HE HD h2
            go_wp2_with fail
            go_quiet (fail)
            go_wp2
            go_returns
            exact ⟨by rw [HD2.out]; rfl, X.out.draws _⟩
        · have n1 := Tb.tl_ne hxy
          have HD2 := hid (HD.out fun e => hxy (Prod.mk.inj e).1)
          clear HE HD hxy
          go_wp2_with fail
          go_quiet (fail)
          go_wp2
          go_returns
          exact ⟨by rw [HD2.out]; rfl, X.out.draws _⟩
      · obtain rfl : k = n := by omega
        go_wp2
        go_returns
        refine ⟨?_, X.out⟩
        have := HT.out
        rw [List.take_of_length_le (by rw [HN.out]; exact Nat.le_refl _), List.take_of_length_le (by rw [HM.out]; exact Nat.le_refl _)] at this
        subst this
        simp [Tb.sameC]
  · have hf : Tb.sameC a b = false := by unfold Tb.sameC; rw [decide_eq_false_iff_not]; rintro rfl; omega
    have h3 : ((n : Int) == (m : Int)) = false := by rw [beq_eq_false_iff_ne]; omega
    have h4 : ((n : Int) != (m : Int)) = true := by rw [bne_iff_ne]; omega
    rw [hf]
    clear ha hb hn hm hnl hl hf
    go_enter Tryz.func47, Tryz.ntmps47
    go_wp2
    go_returns
    exact ⟨rfl, ext_refl _⟩
end Go.Proofs.YtolhifnlahllnaaGreatDoor
end
section
namespace Hy.Tb
theorem app_step {d e : List (List Cel)} {k : Nat} (hk : k < d.length) (he : k < e.length) : (List.zipWith (· ++ ·) (d.take k) (e.take k) ++ d.drop k).set k (d[k] ++ e[k]) = List.zipWith (· ++ ·) (d.take (k + 1)) (e.take (k + 1)) ++ d.drop (k + 1) := by
  have hl : (List.zipWith (· ++ ·) (d.take k) (e.take k)).length = k := by simp; omega
  rw [List.set_append_right _ _ (by omega), hl, Nat.sub_self, List.drop_eq_getElem_cons hk, List.set_cons_zero, List.take_succ_eq_append_getElem hk, List.take_succ_eq_append_getElem he, List.zipWith_append (by simp; omega)]
  simp
theorem app_get {d e : List (List Cel)} {k : Nat} (hk : k < d.length) (he : k < e.length) (h : k < (List.zipWith (· ++ ·) (d.take k) (e.take k) ++ d.drop k).length) : (List.zipWith (· ++ ·) (d.take k) (e.take k) ++ d.drop k)[k] = d[k] := by
  have hl : (List.zipWith (· ++ ·) (d.take k) (e.take k)).length = k := by simp; omega
  rw [List.getElem_append_right (by omega)]
  simp [hl]
/-- what is wrong with rows that are put behind others -/
def appW (t s : Tab) : Nat := if tbck s ≠ 0 then tbck s else if t.1 ≠ s.1 then 7 else if 128 < many t + many s then 2 else 0
theorem appW_bad {t s : Tab} (h : tbck s ≠ 0) : appW t s = tbck s := if_pos h
theorem appW_kind {t s : Tab} (h : tbck s = 0) (h2 : t.1 ≠ s.1) : appW t s = 7 := by unfold appW; rw [if_neg (by simp [h]), if_pos h2]
theorem appW_many {t s : Tab} (h : tbck s = 0) (h2 : t.1 = s.1) (h3 : 128 < many t + many s) : appW t s = 2 := by unfold appW; rw [if_neg (by simp [h]), if_neg (by simp [h2]), if_pos h3]
theorem appW_ok {t s : Tab} (h : tbck s = 0) (h2 : t.1 = s.1) (h3 : ¬ 128 < many t + many s) : appW t s = 0 := by unfold appW; rw [if_neg (by simp [h]), if_neg (by simp [h2]), if_neg h3]
end Hy.Tb
namespace Go.Proofs.YtolhifnlahllnaaGreatDoor
open Go.RowKit Hy
theorem ld_quiet {T : World → Prop} {K : Act → Prop} {a : Act} (o : Oper) (x : Operand) (ho : o.op = .load 23 x) (g i : Nat) (A : Option Addr) (m d : Nat) (hx : a.eval x = .pointer (some ⟨g, i, none⟩)) (hT : ∀ w, T w → w.cell? ⟨g, i, none⟩ = some (.slice A m d)) (h : K (a.put o.dst (.slice A m d))) : o.quiet Tryz.prog a T K := by
  refine ⟨_, fun w hw => ?_, h⟩
  unfold Oper.quietAt execOp
  simp only [ho, hx]
  simp [Oper.quietUpon, go_sem, hT w hw]
theorem RwD.symm {x y : Rw} (h : RwD x y) : RwD y x := fun a b ha hb e => h b a hb ha e.symm
theorem rwd_set {L : List Rw} {k : Nat} (z : Rw) (h : L.Pairwise RwD) (hz : ∀ i (hi : i < L.length), i ≠ k → RwD L[i] z) : (L.set k z).Pairwise RwD := by
  have hp := List.pairwise_iff_getElem.1 h
  refine List.pairwise_iff_getElem.2 (fun i j hi hj hij => ?_)
  rw [List.length_set] at hi hj
  rw [List.getElem_set, List.getElem_set]
  by_cases h1 : k = i
  · rw [if_pos h1, if_neg (by omega)]; exact (hz j hj (by omega)).symm
  · rw [if_neg h1]
    by_cases h2 : k = j
    · rw [if_pos h2]; exact hz i hi (by omega)
    · rw [if_neg h2]; exact hp i j hi hj hij
theorem rwd_at {L : List Rw} (h : L.Pairwise RwD) {i k : Nat} (hi : i < L.length) (hk : k < L.length) (hne : i ≠ k) : RwD L[i] L[k] := by
  have hp := List.pairwise_iff_getElem.1 h
  rcases Nat.lt_or_gt_of_ne hne with h1 | h1
  · exact hp i k hi hk h1
  · exact (hp k i hk hi h1).symm
set_option maxHeartbeats 6400000 in
set_option maxRecDepth 100000 in
theorem appC_any (t s : Tb.Tab) (base g h1 : Nat) (w0 wx : World) (A2 B2 : Option Addr) (n2 c2 m2 d2 : Nat) (ht : TbO wx base g t) (hbw : base ≤ wx.heap.size) (hR : Tb.Right t) (hB : TbB t) (hx0 : Ext w0 wx) (hg0 : w0.heap.size ≤ g) (hb0 : w0.heap.size ≤ base)
    (hs : TbV w0 (.agg #[.slice A2 n2 c2, .slice B2 m2 d2]) s) (hBs : TbB s) (hbx : Blk w0 h1 25 #[.slice A2 n2 c2, .slice B2 m2 d2]) :
    Calls Tryz.prog 46 #[.pointer (some ⟨g, 0, none⟩), .pointer (some ⟨h1, 0, none⟩)] wx fun e w' => e = .returned (.int .i64 (Tb.appW t s : Nat)) ∧ (Tb.appW t s = 0 → TbG w' base g (Tb.appT t s)) ∧ Chg base g wx w' := by
  obtain ⟨A, c, B, d, L, hg, hgb, o1, o2, hL, hok, hpw⟩ := ht.parts
  obtain ⟨n, hn⟩ : ∃ n, n = t.1.length := ⟨_, rfl⟩
  obtain ⟨m, hm⟩ : ∃ n, n = t.2.length := ⟨_, rfl⟩
  have h6 := hR.six
  have hlen := hR.len
  rw [← hn] at hg o1
  rw [← hm] at hg o2
  have hv := TbV.of hn hm o1 o2 hL hok
  have HCK := hid (fun wy (hx : Ext w0 wy) => tcheck_any s _ wy (hs.keep hx) hBs)
  have HMS := hid (fun wy (hx : Ext w0 wy) => many_any s _ wy (hs.keep hx) hBs)
  have HMT := hid (fun wy (hx : Ext wx wy) => many_any t _ wy (hv.keep hx) hB)
  obtain ⟨As, cs, Bs, ds, LS, es, k1, k2, kL, kok, y1, y2, yc⟩ := hs
  obtain ⟨rfl, rfl, rfl, rfl, rfl, rfl⟩ : A2 = As ∧ n2 = s.1.length ∧ c2 = cs ∧ B2 = Bs ∧ m2 = s.2.length ∧ d2 = ds := by
    injection es with es
    have e6 := congrArg Array.toList es
    simp only [List.cons.injEq, and_true, Value.slice.injEq] at e6
    obtain ⟨⟨a1, a2, a3⟩, a4, a5, a6⟩ := e6
    exact ⟨a1, a2, a3, a4, a5, a6⟩
  obtain ⟨n2, hn2⟩ : ∃ n, n = s.1.length := ⟨_, rfl⟩
  obtain ⟨m2, hm2⟩ : ∃ n, n = s.2.length := ⟨_, rfl⟩
  have HEQ := hid (fun wy (hx : Ext wx wy) => equalC_any t.1 s.1 A A2 n n2 c c2 wy hn.symm ((own_rd o1).1.keep hx) hn2.symm (k1.keep (hx0.then hx)) (by omega))
  obtain ⟨F, hF⟩ : ∃ F, F = Tb.tbck s := ⟨_, rfl⟩
  obtain ⟨MT, hMT⟩ : ∃ M, M = Tb.many t := ⟨_, rfl⟩
  obtain ⟨MS, hMS⟩ : ∃ M, M = Tb.many s := ⟨_, rfl⟩
  rw [← hn2, ← hm2] at hbx HCK HMS
  rw [← hF] at HCK
  rw [← hMT] at HMT
  rw [← hMS] at HMS
  have hf0 := hbx.lt
  have HG := hid hg
  have HGB := hid hgb; have HBW := hid hbw; have HX0 := hid hx0; have HG0 := hid hg0; have HB0 := hid hb0
  have HN := hid hn; have HM := hid hm; have HN2 := hid hn2; have HM2 := hid hm2
  have P1 := hid o1; have P2 := hid o2; have HLM := hid hL; have PO := hid hok; have HR := hid hR; have HPW := hid hpw
  have HKB := hid k2; have HKL := hid kL; have HKO := hid kok
  have HBX := hid hbx
  have HFF := hid hF
  have HMTT := hid hMT; have HMSS := hid hMS
  have b0 := (hbx.keep hx0).cell 0
  have b1 := (hbx.keep hx0).cell 1
  have hm6 : m ≤ 6 := by omega
  have HM6 := hid hm6
  clear ht hR hB hx0 hg0 hb0 hBs hbx hg hgb hbw o1 o2 hL hok hpw hn hm hn2 hm2 h6 hlen hv es k1 k2 kL kok y1 y2 yc hF hMT hMS hf0 hm6
  go_enter Tryz.func46, Tryz.ntmps46
  go_wp2_with fail
  refine Calls.mono (HCK.out _ HX0.out) ?_
  rintro e w1 ⟨rfl, hx⟩
  have X1 := hid hx
  clear hx b0 b1
  by_cases h0 : F = 0
  · subst h0
    have b0 := (HBX.out.keep (HX0.out.then X1.out)).cell 0
    have a0 := (HG.out.keep X1.out).cell 0
    have b0r := cell_regrown b0
    have a0r := cell_regrown a0
    go_upto_region 4 with fail
    refine wp_region_walk [(0, true), (1, true), (2, true), (3, true), (4, true), (5, true), (6, false), (7, true), (8, true)] (by kernel_rfl) (by kernel_rfl) (fun _ _ _ _ _ h => h) (by kernel_rfl) (by rfl) ?_
    simp only [List.filterMap_cons, List.filterMap_nil, List.getElem?_toArray, List.getElem?_cons_zero, List.getElem?_cons_succ, Option.map_some]
    repeat (refine wpM_val (by rfl) ?_; intro K hK; go_big_quiet_op; go_big_quiet_on)
    have Y0 : Ext w1 w1.drew := (ext_refl w1).draw
    refine wpM_do (by rfl) ?_
    intro K hK
    go_simp
    refine Calls.mono (HEQ.out _ (X1.out.then Y0)) ?_
    rintro e w2 ⟨rfl, hx⟩
    have Y1 := Ext.then Y0 hx
    have X2 := hid (X1.out.then Y1)
    refine hK _ _ Y1 ?_
    clear K hK hx Y0 Y1 b0r a0r b0 a0
    by_cases hc : t.1 = s.1
    · have hcc : Tb.sameC t.1 s.1 = true := by unfold Tb.sameC; simp [hc]
      rw [hcc]
      have HC := hid hc
      clear hcc hc
      repeat (refine wpM_val (by rfl) ?_; intro K hK; go_big_quiet_op; go_big_quiet_on)
      refine wpM_nil ?_
      have b0 := (HBX.out.keep (HX0.out.then X2.out)).cell 0
      have b1 := (HBX.out.keep (HX0.out.then X2.out)).cell 1
      have a0 := (HG.out.keep X2.out).cell 0
      have a1 := (HG.out.keep X2.out).cell 1
      have b0r := cell_regrown b0
      have b1r := cell_regrown b1
      have a0r := cell_regrown a0
      have a1r := cell_regrown a1
      go_upto_region 6 with fail
      refine wp_region_walk [(0, true), (1, true), (2, true), (4, true), (3, false), (5, false), (6, true), (7, true), (8, true)] (by kernel_rfl) (by kernel_rfl) (fun _ _ _ _ _ h => h) (by kernel_rfl) (by rfl) ?_
      simp only [List.filterMap_cons, List.filterMap_nil, List.getElem?_toArray, List.getElem?_cons_zero, List.getElem?_cons_succ, Option.map_some]
      repeat (refine wpM_val (by rfl) ?_; intro K hK; go_big_quiet_op; go_big_quiet_on)
      have Y0 : Ext w2 w2.drew := (ext_refl w2).draw
      refine wpM_do (by rfl) ?_
      intro K hK
      go_simp
      refine Calls.mono (HMT.out _ (X2.out.then Y0)) ?_
      rintro e w3 ⟨rfl, hx⟩
      have Y1 := Ext.then Y0 hx
      refine hK _ _ Y1 ?_
      clear K hK hx Y0
      repeat (refine wpM_val (by rfl) ?_; intro K hK; go_big_quiet_op; go_big_quiet_on)
      refine wpM_do (by rfl) ?_
      intro K hK
      go_simp
      refine Calls.mono (HMS.out _ (HX0.out.then (X2.out.then Y1))) ?_
      rintro e w4 ⟨rfl, hx⟩
      have Y2 := Ext.then Y1 hx
      have X4 := hid (X2.out.then Y2)
      refine hK _ _ Y2 ?_
      clear K hK hx Y1 Y2 b0r b1r a0r a1r b0 b1 a0 a1
      have hlim := HR.out.lim
      rw [← HMTT.out] at hlim
      have hlim2 := ((Tb.right_iff s).1 HFF.out.symm).lim
      rw [← HMSS.out] at hlim2
      have hsum : IntKind.i64.wrap ((MT : Int) + (MS : Int)) = ((MT + MS : Nat) : Int) := by rw [IntKind.wrap_i64]; omega
      by_cases h128 : 128 < MT + MS
      · have hI : (128 : Int) < ((MT + MS : Nat) : Int) := by omega
        have HV := hid (Tb.appW_many HFF.out.symm HC.out (by rw [← HMTT.out, ← HMSS.out]; exact h128))
        clear h128 hlim hlim2
        repeat (refine wpM_val (by rfl) ?_; intro K hK; go_big_quiet_op; go_big_quiet_on)
        refine wpM_nil ?_
        go_wp2
        go_returns
        exact ⟨by rw [HV.out]; rfl, fun h => (by rw [HV.out] at h; exact absurd h (by decide)), (Chg.refl base g wx).ext HBW.out X4.out⟩
      · have hI : ((MT + MS : Nat) : Int) ≤ 128 := by omega
        have HV := hid (Tb.appW_ok HFF.out.symm HC.out (by rw [← HMTT.out, ← HMSS.out]; exact h128))
        have HSUM := hid (show MT ≤ 128 ∧ MS ≤ 128 from ⟨hlim, hlim2⟩)
        clear h128 hlim hlim2
        repeat (refine wpM_val (by rfl) ?_; intro K hK; go_big_quiet_op; go_big_quiet_on)
        refine wpM_nil ?_
        clear hsum
        have b1 := (HBX.out.keep (HX0.out.then X4.out)).cell 1
        have hR2 := (Tb.right_iff s).1 HFF.out.symm
        have hmm : m2 = m := by rw [HM2.out, HM.out, ← hR2.len, ← HR.out.len, HC.out]
        have HMM := hid hmm
        have HR2 := hid hR2
        subst hmm
        have hmI : (m2 : Int) ≤ 6 := by have := HM6.out; omega
        have CH0 := hid (show Chg base g wx w4 from (Chg.refl base g wx).ext HBW.out X4.out)
        have G0 := hid (HG.out.keep X4.out)
        have Q01 := hid (own_ext P1.out X4.out)
        have Q02 := hid (own_ext P2.out X4.out)
        have PO4 := hid (fun x hx => (PO.out x hx).ext X4.out)
        have BW4 := hid (Nat.le_trans HBW.out X4.out.size)
        clear hR2
        go_wp2
        have b1 := True.intro
        go_loopw [5, 6, 34] (fun _ _ ii wr => ∃ k : Nat, k ≤ m2 ∧ ii = .int .i64 k ∧ ∃ L', Hid (Blk wr g 25 #[.slice A n c, .slice B m2 d]) ∧ Hid (wr.ownsRow base 39 2 (.slice A n c) n (ens t.1)) ∧ Hid (wr.ownsRow base 45 1 (.slice B m2 d) m2 (rws' L')) ∧ Hid (L'.map (·.2) = List.zipWith (· ++ ·) (t.2.take k) (s.2.take k) ++ t.2.drop k) ∧ Hid (∀ x ∈ L', RwO wr base x) ∧ Hid (L'.Pairwise RwD) ∧ Hid (Chg base g wx wr) ∧ Hid (base ≤ wr.heap.size)) (fun _ _ ii _ => m2 - (intOf ii).toNat)
        case atStart => exact ⟨0, Nat.zero_le _, rfl, L, G0, Q01, Q02, hid (by rw [HLM.out]; simp), PO4, HPW, CH0, BW4⟩
        case round =>
          obtain ⟨k, hk, rfl, L', HF, Q1, Q2, HL', HR', HP', HCH, HBR⟩ := hrel
          by_cases hlt : k < m2
          · have hkd : k < t.2.length := by rw [← HM.out]; exact hlt
            have hks : k < s.2.length := by rw [← HM2.out]; exact hlt
            have hLl : L'.length = m2 := by
              have h1 := congrArg List.length HL'.out
              have h2 := HM.out
              have h3 := HM2.out
              simp only [List.length_map, List.length_append, List.length_zipWith, List.length_take, List.length_drop] at h1
              omega
            have hkL : k < L'.length := by omega
            have hlk : L'[k].2 = t.2[k] := by
              have h1 := List.getElem_of_eq HL'.out (i := k) (by rw [List.length_map]; exact hkL)
              rw [List.getElem_map] at h1
              rw [h1]
              exact Tb.app_get hkd hks _
            obtain ⟨gb, eB⟩ := own_some Q2.out (by omega)
            obtain ⟨b2, o2, e2, l2, c2'⟩ := (own_rd Q2.out).1.rows k hkL
            obtain ⟨rfl, rfl⟩ : b2 = gb ∧ o2 = 0 := by
              rw [eB] at e2; injection e2 with e2; injection e2 with e2 e4; exact ⟨e2.symm, e4.symm⟩
            have r0 := c2' k hkL
            rw [Nat.zero_add] at r0
            have RK := HR'.out _ (List.getElem_mem hkL)
            unfold RwO at RK
            rw [hlk] at RK
            have hrow := HR.out.row _ (List.getElem_mem hkd)
            rw [← HMTT.out] at hrow
            have hlkM : L'[k].1.2.1 = MT := by
              have h1 := RK.1
              rw [cls_len, hrow] at h1
              omega
            rw [hlkM] at RK r0
            have X0R := hid (HCH.out.out HX0.out HG0.out HB0.out)
            have hkS : k < LS.length := by
              have := congrArg List.length HKL.out
              rw [List.length_map] at this
              omega
            have hsk : LS[k].2 = s.2[k] := by simp [← HKL.out]
            obtain ⟨b3, o3, e3, l3, c3⟩ := HKB.out.rows k hkS
            have s0 := ext_cell X0R.out (c3 k hkS)
            obtain ⟨v1, v2, v3, v4⟩ := HKO.out _ (List.getElem_mem hkS)
            rw [hsk] at v1 v4
            have hrow2 := HR2.out.row _ (List.getElem_mem hks)
            rw [← HMSS.out] at hrow2
            have hKS := Tb.app_step hkd hks
            have HDJ := hid (fun i (hi : i < L'.length) (hne : i ≠ k) => rwd_at HP'.out hi hkL hne)
            have HSL := hid (show L'.length = m2 from hLl)
            have HKK := hid hkL
            obtain ⟨lc, hlc⟩ : ∃ lc, lc = t.2[k] := ⟨_, rfl⟩
            obtain ⟨sc, hsc⟩ : ∃ sc, sc = s.2[k] := ⟨_, rfl⟩
            rw [← hlc] at RK hrow
            rw [← hlc, ← hsc] at hKS
            rw [← hsc] at v1 v4 hrow2
            have HKS := hid hKS
            generalize hLK : L'[k].1.1 = LK at *
            have HLK := hid hLK
            generalize L'[k].1.2.2 = ck at *
            generalize LS[k].1.1 = Al at *
            generalize LS[k].1.2.1 = ll at *
            generalize LS[k].1.2.2 = cl at *
            have HRK := hid RK
            have HV4 := hid (Rd.keep v4 X0R.out)
            have HV3 := hid v3
            have HLL := hid (show sc.length = ll from v1)
            have HSB := hid (show ll ≤ 128 by have := HSUM.out; omega)
            have heB := hid eB
            have he3 := hid e3
            have hltI : (k : Int) < (m2 : Int) := by omega
            clear c2' c3 l2 l3 e2 e3 eB hlk hlkM hlc hsc hLK hKS hrow hrow2 v1 v2 v3 v4 hsk hks hkd hkS hLl RK
            have eB := heB.out
            have e3 := he3.out
            subst eB e3
            go_upto_region 11 with fail
            have a1 := HF.out.cell 1
            have a1r := cell_regrown a1
            have r0r := cell_regrown r0
            obtain ⟨T, hT⟩ : ∃ T : World → Prop, ∀ w, T w ↔ w.cell? ⟨g, 1, none⟩ = some (.slice (some ⟨b2, 0, none⟩) m2 d) := ⟨_, fun _ => Iff.rfl⟩
            have HT := hid hT
            clear hT
            refine wp_region_lateT T [13, 15] [0, 1, 2, 3, 4, 14] [(0, true), (1, true), (2, true), (3, true), (4, true), (5, true), (6, true), (7, true), (8, true), (9, true), (10, true), (11, true), (12, true), (13, false), (14, true), (15, false)] ((HT.out _).2 (ext_cell (ext_refl wr).draw a1)) (by kernel_rfl) (by kernel_rfl) (fun _ _ _ _ _ h => h) (by kernel_rfl) (by rfl) ?_
            simp only [List.filterMap_cons, List.filterMap_nil, List.getElem?_toArray, List.getElem?_cons_zero, List.getElem?_cons_succ, Option.map_some, List.contains_cons, List.contains_nil, Nat.reduceBEq, Bool.or_false, Bool.or_true]
            repeat (refine wpU_any (by rfl) (by rfl) ?_; intro K hK; go_big_quiet_op; go_big_quiet_on)
            refine wpU_pure (by rfl) ?_
            intro K hK
            refine ld_quiet _ (.tmp 41) rfl g 1 (some ⟨b2, 0, none⟩) m2 d rfl (fun w hw => (HT.out w).1 hw) ?_
            go_big_quiet_on
            simp only [Act.put, List.setIfInBounds_toArray, List.set_cons_zero, List.set_cons_succ]
            repeat ((first | refine wpU_val (by rfl) ?_ | refine wpU_any (by rfl) (by rfl) ?_); intro K hK; go_big_quiet_op; go_big_quiet_on)
            have Y0 := hid (show Ext wr wr.drew from (ext_refl wr).draw)
            refine wpU_late (by rfl) ?_
            intro K hK
            refine wp_app (.tmp 50) (.tmp 51) rowCe rfl _ MT (cls lc) rfl (own_ext HRK.out Y0.out) _ ll (cls sc) rfl (Src.rd Tryz.underlying45 _ ll cl _ (by rw [cls_len, HLL.out]) (HV4.out.keep Y0.out) (cls_one _) HV3.out) (by have := HSUM.out; have := HSB.out; simp only [maxLen] at *; omega) (by have := HSUM.out; have := HSB.out; omega) HBR.out ?_
            intro v' w9 hown9 hgrow hat hbel
            have HO9 := hid hown9
            have E0 := own_ext HRK.out Y0.out
            have B9 := hid (Blk.grw (HF.out.keep Y0.out) hgrow (own_nblk E0 (HF.out.keep Y0.out) (by decide)))
            have U1 := hid ((own_ext Q1.out Y0.out).kept hgrow (own_ne (own_ext Q1.out Y0.out) E0 (by decide)))
            have U2 := hid ((own_ext Q2.out Y0.out).kept hgrow (own_ne (own_ext Q2.out Y0.out) E0 (by decide)))
            have UR := hid (fun i (hi : i < L'.length) (hne : i ≠ k) => RwO.kept ((HR'.out _ (List.getElem_mem hi)).ext Y0.out) hgrow (by
              cases hx : L'[i].1.1 with
              | none => exact .inl rfl
              | some a =>
                right
                cases hy : LK with
                | none => intro h; cases h
                | some b =>
                  intro h
                  exact HDJ.out i hi hne a b hx (HLK.out.trans hy) (Option.some.inj h)))
            have HWB := hid hbel
            obtain ⟨C, cc, rfl, _⟩ := Rd.owned hown9
            have HAT := hid hat
            have a9 := B9.out.cell 1
            obtain ⟨b5, o5, e5, l5, c5⟩ := (own_rd U2.out).1.rows k hkL
            injection e5 with e5
            injection e5 with e5 e6
            subst e5 e6
            have r9 := c5 k hkL
            rw [Nat.zero_add] at r9
            obtain ⟨hgb2, _, cur, hcur', _⟩ := own_cur U2.out
            have hcur : Blk w9 b2 45 cur := hcur'
            have fz := Blk.frozen hcur k
            have HCU := hid hcur
            have HGB2 := hid hgb2
            clear hown9 hgrow hat hbel E0 c5 hcur hcur' hgb2 l5
            refine hK _ _ ((HT.out _).2 a9) ?_
            clear K hK a1 a1r r0r s0 r0
            simp only [Act.put, List.setIfInBounds_toArray, List.set_cons_zero, List.set_cons_succ]
            repeat (refine wpU_any (by rfl) (by rfl) ?_; intro K hK; go_big_quiet_op; go_big_quiet_on)
            have hgn : g ≠ b2 := by have h1 := HGB2.out; have h2 := HGB.out; omega
            have B10 := hid (B9.out.far (p := ⟨b2, k, none⟩) hgn (.slice C (MT + ll) cc))
            have a10 := B10.out.cell 1
            refine wpU_late (by rfl) ?_
            intro K hK
            go_simp
            refine hK _ _ ((HT.out _).2 a10) ?_
            clear K hK a10 a9
            refine wpU_nil ?_
            go_wp2
            have hbU : ∀ {e : TypeId} {size : Nat} {u : Value} {q : Nat} {xs : List Value}, w9.ownsRow base e size u q xs → e ≠ 45 → (w9.setCell ⟨b2, k, none⟩ (.slice C (MT + ll) cc)).ownsRow base e size u q xs := fun h he => own_put h (p := ⟨b2, k, none⟩) (own_nblk h HCU.out he) _
            go_roundw
            case rel =>
              refine ⟨k + 1, by omega, by go_num, L'.set k ((C, MT + ll, cc), lc ++ sc), B10, hid (hbU U1.out (by decide)), hid ?_, hid ?_, hid ?_, hid ?_, hid ?_, hid ?_⟩
              · rw [← rws_set]; exact own_set U2.out rfl k _
              · rw [List.map_set, HL'.out]; exact HKS.out
              · intro x hx
                obtain ⟨i, hi, rfl⟩ := List.mem_iff_getElem.1 hx
                rw [List.length_set] at hi
                rw [List.getElem_set]
                by_cases h1 : k = i
                · rw [if_pos h1]
                  have := hbU HO9.out (by decide)
                  rw [← cls_app] at this
                  exact this
                · rw [if_neg h1]; exact hbU (UR.out i hi (by omega)) (by decide)
              · refine rwd_set _ HP'.out (fun i hi hne a b ha hb => ?_)
                have hlt9 := ((HR'.out _ (List.getElem_mem hi)).lt ha).2
                subst hb
                rcases HAT.out with h1 | h1
                · cases hy : LK with
                  | none => rw [hy] at h1; cases h1
                  | some b' =>
                    rw [hy] at h1
                    have h2 : b.block = b'.block := Option.some.inj h1
                    rw [h2]
                    exact HDJ.out i hi hne a b' ha (HLK.out.trans hy)
                · have h2 : b.block = wr.heap.size := Option.some.inj h1
                  omega
              · exact Chg.put ((HCH.out.ext HBR.out Y0.out).below HWB.out) ⟨b2, k, none⟩ (.inr HGB2.out) _
              · rw [size_put]; exact Nat.le_trans HBR.out (Nat.le_trans Y0.out.size HWB.out.size)
            case measure => simp [intOf]; omega
          · obtain rfl : m2 = k := by omega
            go_wp2
            go_returns
            refine ⟨by rw [HV.out]; rfl, fun _ => TbG.mk' (t := Tb.appT t s) HN.out (by simp only [Tb.appT, List.length_zipWith, ← HM.out, ← HM2.out]; exact (Nat.min_self _).symm) HF.out Q1.out Q2.out ?_ HR'.out, HCH.out⟩
            rw [HL'.out, List.take_of_length_le (by rw [← HM.out]; exact Nat.le_refl _), List.take_of_length_le (by rw [← HM2.out]; exact Nat.le_refl _), List.drop_of_length_le (by rw [← HM.out]; exact Nat.le_refl _), List.append_nil]; rfl
    · have hcc : Tb.sameC t.1 s.1 = false := by unfold Tb.sameC; simp [hc]
      rw [hcc]
      have HV := hid (Tb.appW_kind HFF.out.symm hc)
      clear hcc hc
      repeat (refine wpM_val (by rfl) ?_; intro K hK; go_big_quiet_op; go_big_quiet_on)
      refine wpM_nil ?_
      go_wp2
      go_returns
      exact ⟨by rw [HV.out]; rfl, fun h => (by rw [HV.out] at h; exact absurd h (by decide)), (Chg.refl base g wx).ext HBW.out X2.out⟩
  · have HV := hid (Tb.appW_bad (t := t) (s := s) (by rw [← HFF.out]; exact h0))
    have e1 : ((F : Int) == 0) = false := beq_eq_false_iff_ne.2 (by omega)
    have e2 : ((F : Int) != 0) = true := by simp; omega
    have HF0 := hid h0
    clear h0
    go_wp2
    go_returns
    exact ⟨by rw [HV.out, ← HFF.out]; rfl, fun h => absurd (by rw [HV.out, ← HFF.out] at h; exact h) HF0.out, (Chg.refl base g wx).ext HBW.out X1.out⟩
end Go.Proofs.YtolhifnlahllnaaGreatDoor
end
section
namespace Hy
theorem rws_len1 (L : List Rw) : (rws' L).length = L.length * 1 := by rw [rws_len, Nat.mul_one]
end Hy
namespace Go.Proofs.YtolhifnlahllnaaGreatDoor
open Go.RowKit Hy
set_option maxHeartbeats 3200000 in
set_option maxRecDepth 100000 in
theorem deleteC_any (l : List Ent) (A : Option Addr) (n c i base : Nat) (x : Int) (w : World) (hx : x = (i : Int) + 1) (j : Nat) (hj : j + 1 = n) (hn : l.length = n) (ho : w.ownsRow base 39 2 (.slice A n c) n (ens l)) (hi : i < n) (hnl : n ≤ 1000000) :
    Calls Tryz.prog 65 #[.slice A n c, .int .i64 (i : Int), .int .i64 x] w fun e w' => e = .returned (.slice A j c) ∧ w'.ownsRow base 39 2 (.slice A j c) j (ens (l.take i ++ l.drop (i + 1))) ∧ w.grownBy w' (Value.slice A n c).ownBlock := by
  obtain ⟨g, rfl⟩ : ∃ g, A = some ⟨g, 0, none⟩ := own_some ho (by omega)
  obtain ⟨hr, _, hnc⟩ := own_rd ho
  obtain ⟨_, hcm, _⟩ := own_cur ho
  obtain ⟨k, hk⟩ : ∃ k, k = i + 1 := ⟨_, rfl⟩
  obtain rfl : x = (k : Int) := by omega
  rw [← hk]
  have HJ := hid hj
  have hcI : (c : Int) ≤ 9223372036854775807 := by unfold maxLen at hcm; omega
  have HPRE := hid (show w.drew.ownsRow base 39 2 (.slice (some ⟨g, 0, none⟩) i c) i (ens (l.take i)) by
    have h := own_take (k := i) (own_ext ho (ext_refl w).draw) (by omega)
    rw [show (ens l).take (i * 2) = ens (l.take i) from flat_take (f := ent2) (m := 2) (fun _ => rfl) l i] at h
    exact h)
  have HSRC := hid (show Src Tryz.prog 2 22 (.slice (slF (some ⟨g, 0, none⟩) k c 2) (n - k) (c - k)) (n - k) (ens (l.drop k)) w.drew from
    Src.rd Tryz.underlying22 _ _ _ _ (by rw [ens_len, List.length_drop, hn]) (Rd.from (f := ent2) (m := 2) (fun _ => rfl) (hr.keep (ext_refl w).draw) k c (by omega)) (ens_one _) (fun h => by unfold slF at h; split at h <;> cases h))
  have HAPP := hid (show ens (l.take i) ++ ens (l.drop k) = ens (l.take i ++ l.drop k) by simp only [ens, List.flatMap_append])
  have HJK := hid (show i + (n - k) = j by omega)
  have HZ := hid (show ∀ w, (zeroValue 39).run Tryz.prog w = .ok (.agg #[.string ⟨#[]⟩, .int .i64 0]) w from fun w => by kernel_rfl)
  have HG := hid (show Ext w w.drew from (ext_refl w).draw)
  have hsl1 := fun wx : World => sl_to (P := Tryz.prog) (t := 22) (e := 39) (m := 2) Tryz.underlying22 (by kernel_rfl) (some ⟨g, 0, none⟩) n c .i64 i (by omega) wx
  have hsl2 := fun wx : World => sl_from (P := Tryz.prog) (t := 22) (e := 39) (m := 2) Tryz.underlying22 (by kernel_rfl) (some ⟨g, 0, none⟩) n c .i64 k (by omega) wx
  have hsl3 := fun wx : World => sl_mid (P := Tryz.prog) (t := 22) (e := 39) (m := 2) Tryz.underlying22 (by kernel_rfl) (some ⟨g, 0, none⟩) j c .i64 .i64 j n (by omega) (by omega) wx
  rw [show slF (some ⟨g, 0, none⟩) j c 2 = some ⟨g, j * 2, none⟩ by unfold slF; rw [if_neg (by omega)]; show some ((Addr.mk g 0 none).add (j * 2)) = _; rw [add_none, Nat.zero_add]] at hsl3
  rw [show n - j = 1 by omega] at hsl3
  have hni : ¬ n = i := by omega
  have hikI : (i : Int) ≤ (k : Int) := by omega
  have hknI : (k : Int) ≤ (n : Int) := by omega
  have hncI : (n : Int) ≤ (c : Int) := by omega
  have hne : ((i : Int) == (k : Int)) = false := beq_eq_false_iff_ne.2 (by omega)
  have hroom := hid (show i + (n - k) ≤ c by omega)
  have hjc := hid (show j + 1 ≤ c by omega)
  clear hr hn ho hi hnl hk hj hnc hcm hx
  go_enter Tryz.func65, Tryz.ntmps65
  go_wp2_with fail
  go_region_law (go_loud (refine step_app_room rfl (.tmp 22) (.tmp 25) rowCo rfl g c i (ens (l.take i)) (by simp [Act.eval, Act.put]) HPRE.out (.slice (slF (some ⟨g, 0, none⟩) k c 2) (n - k) (c - k)) (n - k) (ens (l.drop k)) (by simp [Act.eval, Act.put]) HSRC.out hroom.out ?_; intro w4 hown hgrow))
  have HOW := hown.out
  have HGR := hgrow
  rw [HJK.out, HAPP.out] at HOW
  rw [HJK.out]
  clear hown hgrow
  obtain ⟨w5, hclr, own5, grow5⟩ := own_cleared 22 39 (.agg #[.string ⟨#[]⟩, .int .i64 0]) 2 Tryz.underlying22 HZ.out rfl (by decide) (q := c - j) HOW (show 0 < 1 by decide) hjc.out
  have HO5 := hid own5
  have HG5 := hid grow5
  have hjnI : (j : Int) ≤ (n : Int) := by have := HJ.out; omega
  clear own5 grow5
  go_wp2
  go_returns
  refine ⟨rfl, HO5.out, ?_⟩
  exact grown_then (grown_ext (ext_refl w).draw) (grown_then HGR.out HG5.out)
set_option maxHeartbeats 3200000 in
set_option maxRecDepth 100000 in
theorem deleteR_any (l : List Rw) (A : Option Addr) (n c i base : Nat) (x : Int) (w : World) (hx : x = (i : Int) + 1) (j : Nat) (hj : j + 1 = n) (hn : l.length = n) (ho : w.ownsRow base 45 1 (.slice A n c) n (rws' l)) (hi : i < n) (hnl : n ≤ 1000000) :
    Calls Tryz.prog 66 #[.slice A n c, .int .i64 (i : Int), .int .i64 x] w fun e w' => e = .returned (.slice A j c) ∧ w'.ownsRow base 45 1 (.slice A j c) j (rws' (l.take i ++ l.drop (i + 1))) ∧ w.grownBy w' (Value.slice A n c).ownBlock := by
  obtain ⟨g, rfl⟩ : ∃ g, A = some ⟨g, 0, none⟩ := own_some ho (by omega)
  obtain ⟨hr, _, hnc⟩ := own_rd ho
  obtain ⟨_, hcm, _⟩ := own_cur ho
  obtain ⟨k, hk⟩ : ∃ k, k = i + 1 := ⟨_, rfl⟩
  obtain rfl : x = (k : Int) := by omega
  rw [← hk]
  have HJ := hid hj
  have hcI : (c : Int) ≤ 9223372036854775807 := by unfold maxLen at hcm; omega
  have HPRE := hid (show w.drew.ownsRow base 45 1 (.slice (some ⟨g, 0, none⟩) i c) i (rws' (l.take i)) by
    have h := own_take (k := i) (own_ext ho (ext_refl w).draw) (by omega)
    rw [show (rws' l).take (i * 1) = rws' (l.take i) from flat_take (f := rw1) (m := 1) (fun _ => rfl) l i] at h
    exact h)
  have HSRC := hid (show Src Tryz.prog 1 23 (.slice (slF (some ⟨g, 0, none⟩) k c 1) (n - k) (c - k)) (n - k) (rws' (l.drop k)) w.drew from
    Src.rd Tryz.underlying23 _ _ _ _ (by rw [rws_len1, List.length_drop, hn]) (Rd.from (f := rw1) (m := 1) (fun _ => rfl) (hr.keep (ext_refl w).draw) k c (by omega)) (rws_one _) (fun h => by unfold slF at h; split at h <;> cases h))
  have HAPP := hid (show rws' (l.take i) ++ rws' (l.drop k) = rws' (l.take i ++ l.drop k) by simp only [rws', List.flatMap_append])
  have HJK := hid (show i + (n - k) = j by omega)
  have HZ := hid (show ∀ w, (zeroValue 45).run Tryz.prog w = .ok (.slice none 0 0) w from fun w => by kernel_rfl)
  have HG := hid (show Ext w w.drew from (ext_refl w).draw)
  have hsl1 := fun wx : World => sl_to (P := Tryz.prog) (t := 23) (e := 45) (m := 1) Tryz.underlying23 (by kernel_rfl) (some ⟨g, 0, none⟩) n c .i64 i (by omega) wx
  have hsl2 := fun wx : World => sl_from (P := Tryz.prog) (t := 23) (e := 45) (m := 1) Tryz.underlying23 (by kernel_rfl) (some ⟨g, 0, none⟩) n c .i64 k (by omega) wx
  have hsl3 := fun wx : World => sl_mid (P := Tryz.prog) (t := 23) (e := 45) (m := 1) Tryz.underlying23 (by kernel_rfl) (some ⟨g, 0, none⟩) j c .i64 .i64 j n (by omega) (by omega) wx
  rw [show slF (some ⟨g, 0, none⟩) j c 1 = some ⟨g, j * 1, none⟩ by unfold slF; rw [if_neg (by omega)]; show some ((Addr.mk g 0 none).add (j * 1)) = _; rw [add_none, Nat.zero_add]] at hsl3
  rw [show n - j = 1 by omega, Nat.mul_one] at hsl3
  have hni : ¬ n = i := by omega
  have hikI : (i : Int) ≤ (k : Int) := by omega
  have hknI : (k : Int) ≤ (n : Int) := by omega
  have hncI : (n : Int) ≤ (c : Int) := by omega
  have hne : ((i : Int) == (k : Int)) = false := beq_eq_false_iff_ne.2 (by omega)
  have hroom := hid (show i + (n - k) ≤ c by omega)
  have hjc := hid (show j + 1 ≤ c by omega)
  clear hr hn ho hi hnl hk hj hnc hcm hx
  go_enter Tryz.func66, Tryz.ntmps66
  go_wp2_with fail
  go_region_law (go_loud (refine step_app_room rfl (.tmp 22) (.tmp 25) rowRo rfl g c i (rws' (l.take i)) (by simp [Act.eval, Act.put]) HPRE.out (.slice (slF (some ⟨g, 0, none⟩) k c 1) (n - k) (c - k)) (n - k) (rws' (l.drop k)) (by simp [Act.eval, Act.put]) HSRC.out hroom.out ?_; intro w4 hown hgrow))
  have HOW := hown.out
  have HGR := hgrow
  rw [HJK.out, HAPP.out] at HOW
  rw [HJK.out]
  clear hown hgrow
  obtain ⟨w5, hclr, own5, grow5⟩ := own_cleared 23 45 (.slice none 0 0) 1 Tryz.underlying23 HZ.out rfl (by decide) (q := c - j) HOW (show 0 < 1 by decide) hjc.out
  simp only [Nat.mul_one] at hclr
  have HO5 := hid own5
  have HG5 := hid grow5
  have hjnI : (j : Int) ≤ (n : Int) := by have := HJ.out; omega
  clear own5 grow5
  go_wp2
  go_returns
  refine ⟨rfl, HO5.out, ?_⟩
  exact grown_then (grown_ext (ext_refl w).draw) (grown_then HGR.out HG5.out)
end Go.Proofs.YtolhifnlahllnaaGreatDoor
end
section
namespace Hy
open Go Go.RowKit
/-- cells of which the first a are x, the others nothing -/
@[irreducible] def fillc (x : Cel) (a k : Nat) : List Cel := List.replicate a x ++ List.replicate (k - a) Cnd.O
theorem fillc_len (x : Cel) (a k : Nat) (h : a ≤ k) : (fillc x a k).length = k := by unfold fillc; simp; omega
theorem fillc_all (x : Cel) (k : Nat) : fillc x k k = List.replicate k x := by unfold fillc; simp
theorem fillc_zero (x y : Cel) (k : Nat) : fillc x 0 k = fillc y 0 k := by unfold fillc; simp
theorem fillc_splice (x : Cel) (a c k : Nat) (h : a + c ≤ k) : splice (cls (fillc x a k)) (a * 3) (cls (List.replicate c x)) = cls (fillc x (a + c) k) := by
  unfold splice
  rw [cls_len, List.length_replicate, show a * 3 + c * 3 = (a + c) * 3 by omega]
  have h1 : (cls (fillc x a k)).take (a * 3) = cls ((fillc x a k).take a) := flat_take (f := cel3) (m := 3) (fun _ => rfl) _ a
  have h2 : (cls (fillc x a k)).drop ((a + c) * 3) = cls ((fillc x a k).drop (a + c)) := flat_drop (f := cel3) (m := 3) (fun _ => rfl) _ (a + c)
  rw [h1, h2, ← cls_app, ← cls_app]
  congr 1
  unfold fillc
  rw [List.take_left' (by simp), List.drop_append, List.length_replicate, List.drop_of_length_le (by simp), List.nil_append, List.drop_replicate, show k - a - (a + c - a) = k - (a + c) by omega, ← List.append_assoc, List.replicate_append_replicate]
theorem madec (k : Nat) : (madeCells #[.int .i64 0, .int .u64 0, .string ⟨#[]⟩] (k * 3)).toList = cls (List.replicate k Cnd.O) := by
  apply List.ext_getElem
  · rw [Array.length_toList, size_madeCells, cls_len, List.length_replicate]
  · intro i h1 h2
    have h2' := h2
    rw [cls_len, List.length_replicate] at h2
    have hq : i / 3 < k := by omega
    have h3 := flat_get (f := cel3) (m := 3) (fun _ => rfl) (List.replicate k Cnd.O) (i / 3) (by simpa using hq) (i % 3) (Nat.mod_lt _ (by decide))
    rw [show i / 3 * 3 + i % 3 = i by omega, List.getElem_replicate] at h3
    apply Option.some.inj
    rw [← List.getElem?_eq_getElem h1, ← List.getElem?_eq_getElem h2', show (cls (List.replicate k Cnd.O))[i]? = _ from h3]
    have hm : i % 3 = 0 ∨ i % 3 = 1 ∨ i % 3 = 2 := by omega
    rcases hm with hm | hm | hm <;> simp [madeCells, h2, hm, cel3, Cnd.O] <;> rfl
theorem step_copy_i {P : Program} {w : World} {ops : Array Oper} {o : Oper} {a : Act} {K : Act → World → Prop} {Q : Exit → Act → World → Prop} {E : Prop} (hgd : o.guard = none) (d s : Operand) (dT sT : TypeId)
    (ho : o.op = .call { callee := .builtin .copy, args := #[d, s], argTypes := #[dT, sT] }) (elem : TypeId) (m q : Nat) (dp sp : Option Addr) (dLen dCap sLen sCap : Nat) (hd : a.eval d = .slice dp dLen dCap) (hs : a.eval s = .slice sp sLen sCap) (g off : Nat) (cur : List Value) (t : TypeId) (cs : List Value)
    (hu : P.underlying dT = some (.slice elem)) (hsz : (P.info? elem).map (·.size) = some m) (hg : w.heap[g]? = some (.cells cur.toArray t (0, 0))) (hq : q = Nat.min sLen dLen) (hn : cs.length = q * m)
    (hpos : 0 < q → dp = some ⟨g, off, none⟩ ∧ ∃ ad, sp = some ad ∧ ∀ j v, cs[j]? = some v → w.cell? (ad.add j) = some v)
    (hfit : off + cs.length ≤ cur.length) (h1 : ∀ v ∈ cs, v.oneCell' = true)
    (h : ∀ w', Hid (w'.heap[g]? = some (.cells (splice cur off cs).toArray t (0, 0))) → Hid (w.grownBy w' (some g)) → K (a.put o.dst (.int .i64 (q : Int))) w') :
    if Region.wanted o (yielded ops a.tmps) = true then Oper.wp P o a w K Q else E :=
  step_copy_m hgd d s dT sT ho elem m q dp sp dLen dCap sLen sCap hd hs g off cur t cs hu hsz hg hq hn hpos hfit h1 h
end Hy
namespace Go.Proofs.YtolhifnlahllnaaGreatDoor
open Go.RowKit Hy
theorem info_cel : (Tryz.prog.info? 42).map (fun i => (i.zero, i.size, i.bytes)) = some (some (.agg #[.int .i64 0, .int .u64 0, .string ⟨#[]⟩]), 3, 32) := by kernel_rfl
theorem cel_made (x : Cel) (k : Nat) (hk : k ≤ 1000) (w : World) : (Instr.makeSlice 45 (.int .i64 (k : Int)) (.int .i64 (k : Int))).run Tryz.prog w =
    .ok (.slice (some ⟨w.heap.size, 0, none⟩) k k) (w.alloc (.cells (cls (fillc x 0 k)).toArray 42)) := by
  obtain ⟨i, hi, hz, hs, hb⟩ := info_parts info_cel
  rw [run_make w 45 42 i (.agg #[.int .i64 0, .int .u64 0, .string ⟨#[]⟩]) Tryz.underlying45 hi hz .i64 .i64 (k : Int) (k : Int) (by omega) (by omega) (by rw [hb]; omega) (by omega)]
  rw [hs, Int.toNat_natCast, show (Value.agg #[.int .i64 0, .int .u64 0, .string ⟨#[]⟩]).cells = #[.int .i64 0, .int .u64 0, .string ⟨#[]⟩] from rfl]
  have := madec k
  have e : madeCells #[.int .i64 0, .int .u64 0, .string ⟨#[]⟩] (k * 3) = (cls (fillc x 0 k)).toArray := by
    apply Array.ext'
    rw [this]
    unfold fillc; simp
  rw [e]
theorem mul_one' (k : Nat) (hk : k ≤ 1000) (w : World) : Calls Tryz.prog 89 #[.int .u64 1, .int .u64 (k : Int)] w fun e w' => e = .returned (.tuple #[.int .u64 0, .int .u64 (k : Int)]) ∧ w = w' := by
  refine (Tryz.bits_Mul 1 k (by decide) (by omega) w).mono ?_
  rintro e w' ⟨rfl, rfl⟩
  refine ⟨?_, rfl⟩
  rw [Nat.one_mul, Nat.div_eq_of_lt (by omega), Nat.mod_eq_of_lt (by omega)]
  rfl
set_option maxHeartbeats 3200000 in
set_option maxRecDepth 100000 in
theorem repc_any (b o c k : Nat) (x : Cel) (hk : k ≤ 1000) (w : World) (hr : Rd w (some ⟨b, o, none⟩) (cls [x])) :
    Calls Tryz.prog 63 #[.slice (some ⟨b, o, none⟩) 1 c, .int .i64 (k : Int)] w fun e w' => ∃ v, e = .returned v ∧ w'.ownsRow w.heap.size 42 3 v k (cls (List.replicate k x)) ∧ Ext w w' := by
  have hkI : 0 ≤ (k : Int) := by omega
  have hkJ : (k : Int) ≤ 1000 := by omega
  have HK := hid hk
  have hmk := cel_made x k hk
  have HS := hid (show (Tryz.prog.info? 42).map (·.size) = some 3 by kernel_rfl)
  obtain ⟨q0, hq0⟩ : ∃ q, q = Nat.min 1 k := ⟨_, rfl⟩
  have hq1 : q0 = min 1 k := hq0
  have HQ := hid (show q0 ≤ 1 ∧ q0 ≤ k ∧ (q0 = k ∨ q0 = 1) by omega)
  have HQ0 := hid hq0
  have HSRC := hid (fun (j : Nat) (u : Value) (hu : (cls (List.replicate q0 x))[j]? = some u) => show (w.alloc (.cells (cls (fillc x 0 k)).toArray 42)).cell? ((⟨b, o, none⟩ : Addr).add j) = some u by
    have h0 : 0 < q0 := by
      rcases Nat.eq_zero_or_pos q0 with h | h
      · rw [h] at hu; cases hu
      · exact h
    obtain rfl : q0 = 1 := by omega
    obtain ⟨b', o', e, hb, hc⟩ := hr (by rw [cls_len]; show 0 < 1 * 3; decide)
    injection e with e
    injection e with e1 e2
    subst e1 e2
    rw [add_none]
    exact ext_cell (Ext.new (ext_refl w) _) (hc j u hu))
  have HMN := hid (show (cls (List.replicate q0 x)).length = q0 * 3 by rw [cls_len, List.length_replicate])
  have HFT := hid (show 0 + (cls (List.replicate q0 x)).length ≤ (cls (fillc x 0 k)).length by rw [cls_len, cls_len, List.length_replicate, fillc_len _ _ _ (Nat.zero_le _)]; omega)
  have HBK := hid (show (w.alloc (.cells (cls (fillc x 0 k)).toArray 42)).heap[w.heap.size]? = some (.cells (cls (fillc x 0 k)).toArray 42 (0, 0)) from Blk.new w _ _)
  clear hk hr hq0 hq1
  go_enter Tryz.func63, Tryz.ntmps63
  go_wp2_with (first
    | (go_at_call 89; refine (mul_one' k HK.out _).mono ?_; rintro e w' ⟨rfl, rfl⟩)
    | (with_reducible (show wpList _ _ _ (⟨some 33, _, _, _, _, _⟩ :: _) _ _); go_loud (refine wpList_copy_m rfl (.tmp 31) (.tmp 32) 45 45 rfl 42 3 q0 _ _ _ _ _ _ rfl rfl w.heap.size 0 (cls (fillc x 0 k)) 42 (cls (List.replicate q0 x)) Tryz.underlying45 HS.out HBK.out HQ0.out HMN.out (fun _ => ⟨rfl, _, rfl, HSRC.out⟩) HFT.out (cls_one _) ?_; intro w2 HG HB)))
  have HG2 := hid (show w2.heap[w.heap.size]? = some (.cells (cls (fillc x q0 k)).toArray 42 (0, 0)) by
    have h1 := HG.out
    have h2 := fillc_splice x 0 q0 k (by have := HQ.out; omega)
    rw [Nat.zero_mul, Nat.zero_add] at h2
    rw [h2] at h1
    exact h1)
  have HB2 := hid (show Below w.heap.size w w2 from (Ext.new (ext_refl w) (.cells (cls (fillc x 0 k)).toArray 42)).trans ⟨HB.out.os, HB.out.tape, HB.out.output, HB.out.size, fun i hi => HB.out.block i (by simp; omega) (by intro e; injection e with e; omega)⟩)
  clear HG HBK HFT HMN HSRC hmk HB
  go_loopw [8] (fun n wr => ∃ a : Nat, a ≤ k ∧ (a = k ∨ 1 ≤ a) ∧ n = .int .i64 (a : Int) ∧ wr.heap[w.heap.size]? = some (.cells (cls (fillc x a k)).toArray 42 (0, 0)) ∧ Below w.heap.size w wr) (fun n _ => k - (intOf n).toNat)
  case atStart => exact ⟨q0, HQ.out.2.1, by have := HQ.out; omega, rfl, HG2.out, HB2.out⟩
  case round =>
    clear HG2 HB2
    obtain ⟨a, hak, ha1, rfl, hg, hb⟩ := hrel
    have HG := hid hg
    have HBB := hid hb
    clear hg hb
    by_cases hlt : a < k
    · have HA1 := hid (show 1 ≤ a by omega)
      obtain ⟨cc, hcc⟩ : ∃ cc, cc = Nat.min a (k - a) := ⟨_, rfl⟩
      have hcc0 : cc = min a (k - a) := hcc
      have hcc1 : 1 ≤ cc ∧ cc ≤ k - a ∧ cc ≤ a := by omega
      have HCQ := hid hcc
      have HMN := hid (show (cls (List.replicate cc x)).length = cc * 3 by rw [cls_len, List.length_replicate])
      have HFT := hid (show a * 3 + (cls (List.replicate cc x)).length ≤ (cls (fillc x a k)).length by rw [cls_len, cls_len, List.length_replicate, fillc_len _ _ _ hak]; omega)
      have HCV := hid (fun (j : Nat) (u : Value) (hu : (cls (List.replicate cc x))[j]? = some u) => show wr.cell? ((⟨w.heap.size, 0, none⟩ : Addr).add j) = some u by
        have hj := (List.getElem?_eq_some_iff.1 hu).1
        rw [cls_len, List.length_replicate] at hj
        rw [add_none, Nat.zero_add, (show Blk wr w.heap.size _ _ from HG.out).cell, List.getElem?_toArray, ← hu]
        have e1 : cls (fillc x a k) = cls (List.replicate cc x) ++ cls (List.replicate (a - cc) x ++ List.replicate (k - a) Cnd.O) := by
          rw [← cls_app]; unfold fillc; rw [← List.append_assoc, List.replicate_append_replicate, show cc + (a - cc) = a by omega]
        rw [e1, List.getElem?_append_left (by rw [cls_len, List.length_replicate]; exact hj)])
      have HCC := hid hcc1
      have HFIT := hid (show a + cc ≤ k by omega)
      have hsl1 := fun wx : World => sl_from (P := Tryz.prog) (t := 45) (e := 42) (m := 3) Tryz.underlying45 (by kernel_rfl) (some ⟨w.heap.size, 0, none⟩) k k .i64 a (by omega) wx
      have hsl2 := fun wx : World => sl_to (P := Tryz.prog) (t := 45) (e := 42) (m := 3) Tryz.underlying45 (by kernel_rfl) (some ⟨w.heap.size, 0, none⟩) k k .i64 a (by omega) wx
      have hslF : slF (some ⟨w.heap.size, 0, none⟩) a k 3 = some ⟨w.heap.size, a * 3, none⟩ := by unfold slF; rw [if_neg (by omega)]; show some ((Addr.mk w.heap.size 0 none).add (a * 3)) = _; rw [add_none, Nat.zero_add]
      rw [hslF] at hsl1
      obtain ⟨m2, hm2⟩ : ∃ m2, m2 = a + cc := ⟨_, rfl⟩
      have hw2 : IntKind.i64.wrap ((a : Int) + (cc : Int)) = (m2 : Int) := by rw [IntKind.wrap_i64]; omega
      have HM2 := hid hm2
      have haI : (a : Int) < (k : Int) := by omega
      have hccI : (cc : Int) ≤ (k : Int) := by omega
      clear hcc hcc0 hcc1 hm2 hslF ha1
      go_wp2
      go_region_law (go_loud (refine step_copy_i rfl (.tmp 41) (.tmp 44) 45 45 rfl 42 3 cc (some ⟨w.heap.size, a * 3, none⟩) (some ⟨w.heap.size, 0, none⟩) (k - a) (k - a) a k (by simp [Act.eval, Act.put]) (by simp [Act.eval, Act.put]) w.heap.size (a * 3) (cls (fillc x a k)) 42 (cls (List.replicate cc x)) Tryz.underlying45 HS.out HG.out HCQ.out HMN.out (fun _ => ⟨rfl, _, rfl, HCV.out⟩) HFT.out (cls_one _) ?_; intro w4 hg4 hb4))
      have HG5 := hid (show w4.heap[w.heap.size]? = some (.cells (cls (fillc x (a + cc) k)).toArray 42 (0, 0)) by have := hg4.out; rw [fillc_splice _ _ _ _ HFIT.out] at this; exact this)
      have HB4 := hid hb4.out
      clear hg4 hb4
      simp only [Act.put, List.getElem_toArray, List.getElem_cons_succ, List.getElem_cons_zero, List.setIfInBounds_toArray, List.set_cons_succ, List.set_cons_zero]
      go_wp2
      go_roundw
      case rel =>
        refine ⟨m2, by have := HM2.out; have := HFIT.out; omega, by have := HM2.out; have := HCC.out; omega, rfl, by rw [HM2.out]; exact HG5.out, ?_⟩
        exact ⟨HB4.out.os.trans HBB.out.os, HB4.out.tape.trans (below_drewN HBB.out _).tape, HB4.out.output.trans HBB.out.output, Nat.le_trans HBB.out.size HB4.out.size, fun i hi => (HB4.out.block i (Nat.lt_of_lt_of_le hi HBB.out.size) (by intro e; injection e with e; omega)).trans (HBB.out.block i hi)⟩
      case measure => have := HM2.out; have := HCC.out; simp [intOf]; omega
    · obtain rfl : a = k := by omega
      go_wp2
      go_returns
      refine ⟨_, rfl, ⟨by rw [cls_len, List.length_replicate], .inr ⟨w.heap.size, a, _, rfl, Nat.le_refl _, HG.out, Nat.le_refl _, by have := HK.out; unfold maxLen; omega, by simp [cls_len, fillc_len], ?_⟩⟩, HBB.out⟩
      rw [fillc_all]
      simp [List.take_of_length_le, cls_len]
end Go.Proofs.YtolhifnlahllnaaGreatDoor
end
