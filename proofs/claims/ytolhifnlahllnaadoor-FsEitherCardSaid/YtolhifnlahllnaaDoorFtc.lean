/- Files: Play: walk (printed by gen_ftc.py). -/
import Derived.Test.YtolhifnlahllnaaDoorFtb
namespace Hy.Fs
open Go
theorem run_nil (f : FSy) : run f [] = (f, 0) := rfl
theorem run_at_ok (f : FSy) {l : List Opn} {k : Nat} (h : k < l.length) (h0 : (don f l[k]).2 = 0) : run f (l.drop k) = run (don f l[k]).1 (l.drop (k + 1)) := by
  rw [List.drop_eq_getElem_cons h]; simp only [run]; rw [if_neg (by omega)]
theorem run_at_bad (f : FSy) {l : List Opn} {k : Nat} (h : k < l.length) (h0 : (don f l[k]).2 ≠ 0) : run f (l.drop k) = (fs0, (don f l[k]).2) := by
  rw [List.drop_eq_getElem_cons h]; simp only [run]; rw [if_pos h0]
end Hy.Fs
namespace Go.Proofs.YtolhifnlahllnaaDoor
open Go.RowKit Hy
set_option maxHeartbeats 6400000 in
set_option maxRecDepth 100000 in
theorem play_good (f : Fs.FSy) (l : List Fs.Opn) (A : Option Addr) (k kc : Nat) (v : Value) (w : World) (hv : FsV w v f) (hb : Fs.FsB f) (hl : l.length = k) (hr : Rd w A (Fs.ops l)) (hkl : k ≤ 140737488355328) (hlb : ∀ o ∈ l, Fs.OpB o) (h : Fs.fsck f = 0) (h2 : ¬ 64 < l.length) :
    Calls Tryd.prog 22 #[v, .slice A k kc] w fun e w' => ∃ v', e = .returned (.tuple #[v', .int .i64 ((Fs.ply f l).2 : Nat)]) ∧ FsO w' w.heap.size v' (Fs.ply f l).1 ∧ Ext w w' := by
  have HV := hid hv
  obtain ⟨NA, nc, DA, dc, SA, sc, rfl, h1, h2', h3, _, _, _⟩ := hv
  obtain ⟨n, hn⟩ : ∃ n, n = f.1.length := ⟨_, rfl⟩
  obtain ⟨m, hm⟩ : ∃ n, n = f.2.1.length := ⟨_, rfl⟩
  obtain ⟨q, hq⟩ : ∃ n, n = f.2.2.length := ⟨_, rfl⟩
  have HCK := hid (fun wx (hx : Ext w wx) => check_V f _ wx (HV.out.keep hx) hb)
  rw [← hn, ← hm, ← hq] at HV HCK ⊢
  have HRD := hid hr
  have HLL := hid hl
  have HLB := hid hlb
  have HR0 := hid (Fs.ply_run h h2)
  have HOK := hid (Fs.ok_iff.1 h)
  rw [h] at HCK
  have hk64 : (k : Int) ≤ 64 := by omega
  have HN := hid hn; have HM := hid hm; have HQ := hid hq
  have hkI : (k : Int) ≤ 140737488355328 := by omega
  clear h1 h2' h3 hn hm hq hb hl hr hkl hlb h h2
  go_enter Tryd.func22, Tryd.ntmps22
  go_upto_region 1 with fail
  refine wp_gen (fun w' => Ext w w' ∧ Blk w' w.heap.size 25 #[.slice NA n nc, .slice DA m dc, .slice SA q sc] ∧ Blk w' (w.heap.size + 1) 25 #[.slice none 0 0, .slice none 0 0, .slice none 0 0]) ⟨((ext_refl _).new _).new _, (Blk.new _ _ _).alloc _, Blk.newAt (by simp)⟩ ?_
  rintro wz ⟨B0, B1, B3⟩
  have XZ : Hid (Ext w wz) := hid B0
  have F1 := hid B1
  have F3 := hid B3
  have p0 := B1.cell 0
  have p1 := B1.cell 1
  have p2 := B1.cell 2
  clear B0 B1 B3
  go_wp2_with fail
  refine Calls.mono (HCK.out _ XZ.out) ?_
  rintro e w1 ⟨rfl, hx⟩
  replace XZ : Hid (Ext w w1) := hid (XZ.out.then hx)
  replace F1 := hid (F1.out.keep hx)
  replace F3 := hid (F3.out.keep hx)
  clear hx p0 p1 p2
  have p0 := F1.out.cell 0
  have p1 := F1.out.cell 1
  have p2 := F1.out.cell 2
  go_wp2_with fail
  refine Calls.mono (own_V f _ _ (HV.out.keep XZ.out) HOK.out) ?_
  rintro e w3 ⟨g, rfl, hdk, hx⟩
  obtain ⟨A1, c1, A2, c2, A3, c3, hbk, hbg, o1, o2, o3, _⟩ := hdk
  have HO1 := hid o1
  have HO2 := hid o2
  have HO3 := hid o3
  rw [← HN.out, ← HM.out, ← HQ.out] at hbk
  have HSZ := hid (show w.heap.size + 2 ≤ w1.heap.size by have := F3.out.lt; omega)
  replace XZ : Hid (Ext w w3) := hid (XZ.out.then hx)
  replace F1 := hid (F1.out.keep hx)
  replace F3 := hid (F3.out.keep hx)
  clear hx p0 p1 p2
  have p0 := hbk.cell 0
  have p1 := hbk.cell 1
  have p2 := hbk.cell 2
  have y0 := F1.out.frozen 0
  have y1 := F1.out.frozen 1
  have y2 := F1.out.frozen 2
  have gw := F1.out.lt
  have s0 := F1.out.cell 0
  have s1 := F1.out.cell 1
  have s2 := F1.out.cell 2
  clear hbk hbg o1 o2 o3
  go_wp2
  have G1 := hid ((((F1.out.set 0 (.slice A1 n c1)).set 1 (.slice A2 m c2)).set 2 (.slice A3 q c3)).cast (cs' := #[.slice A1 n c1, .slice A2 m c2, .slice A3 q c3]) (by simp))
  have G3 := hid (((F3.out.far (p := ⟨w.heap.size, 0, none⟩) (by simp only; omega) (.slice A1 n c1)).far (p := ⟨w.heap.size, 1, none⟩) (by simp only; omega) (.slice A2 m c2)).far (p := ⟨w.heap.size, 2, none⟩) (by simp only; omega) (.slice A3 q c3))
  have XY := hid (Ext.put (Ext.put (Ext.put XZ.out (p := ⟨w.heap.size, 0, none⟩) (by simp only; omega) (.slice A1 n c1)) (p := ⟨w.heap.size, 1, none⟩) (by simp only; omega) (.slice A2 m c2)) (p := ⟨w.heap.size, 2, none⟩) (by simp only; omega) (.slice A3 q c3))
  have HFO0 : Hid (FsO _ (w.heap.size + 2) (.agg #[.slice A1 n c1, .slice A2 m c2, .slice A3 q c3]) f) := hid (((FsO.put (w := w3) (base := w.heap.size + 2) ⟨A1, c1, A2, c2, A3, c3, by rw [← HN.out, ← HM.out, ← HQ.out], own_low' HO1.out HSZ.out, own_low' HO2.out HSZ.out, own_low' HO3.out HSZ.out⟩ (p := ⟨w.heap.size, 0, none⟩) (by simp only; omega) (.slice A1 n c1)).put (p := ⟨w.heap.size, 1, none⟩) (by simp only; omega) (.slice A2 m c2)).put (p := ⟨w.heap.size, 2, none⟩) (by simp only; omega) (.slice A3 q c3))
  clear gw p0 p1 p2 y0 y1 y2 s0 s1 s2
  go_loopw [29] (fun c wr => ∃ (j : Nat) (fk : Fs.FSy) (cs : Array Value), j ≤ k ∧ c = .int .i64 j ∧ Hid (Fs.run f l = Fs.run fk (l.drop j)) ∧ Hid (Fs.FsB fk) ∧ Hid (Blk wr w.heap.size 25 cs) ∧ Hid (FsO wr (w.heap.size + 2) (.agg cs) fk) ∧ Hid (Blk wr (w.heap.size + 1) 25 #[.slice none 0 0, .slice none 0 0, .slice none 0 0]) ∧ Hid (Ext w wr)) (fun c _ => k - (intOf c).toNat)
  case atStart => exact ⟨0, f, _, Nat.zero_le _, rfl, hid rfl, hid HOK.out.b, G1, HFO0, G3, XY⟩
  case round =>
    obtain ⟨j, fk, cs, hj, rfl, HR, HFB, HB0, HFO, HB1, HX⟩ := hrel
    obtain ⟨D1, e1, D2, e2, D3, e3, hcs, _, _, _⟩ := id HFO.out
    obtain ⟨n1, hn1⟩ : ∃ n, n = fk.1.length := ⟨_, rfl⟩
    obtain ⟨m1, hm1⟩ : ∃ n, n = fk.2.1.length := ⟨_, rfl⟩
    obtain ⟨q1, hq1⟩ : ∃ n, n = fk.2.2.length := ⟨_, rfl⟩
    rw [← hn1, ← hm1, ← hq1] at hcs
    injection hcs with hcs
    subst hcs
    have HSW := hid (show w.heap.size + 2 ≤ wr.heap.size by have := HB1.out.lt; omega)
    clear hn1 hm1 hq1
    by_cases hlt : j < k
    · have hka : j < l.length := by rw [HLL.out]; exact hlt
      obtain ⟨b1, o1, ea, l1, ca⟩ := HRD.out.opns j hka
      obtain ⟨d0, d1, d2, d3⟩ := ca j hka
      replace d0 := ext_cell HX.out d0
      replace d1 := ext_cell HX.out d1
      replace d2 := ext_cell HX.out d2
      replace d3 := ext_cell HX.out d3
      obtain ⟨hb1, hb2, hb3⟩ := HLB.out _ (List.getElem_mem hka)
      have HD1 := hid (fun h0 => Fs.run_at_ok fk hka h0)
      have HD2 := hid (fun h0 => Fs.run_at_bad fk hka h0)
      have HEA := hid ea
      have hjI : (j : Int) < (k : Int) := by omega
      clear ca ea l1
      generalize l[j] = o at *
      have HDO := hid (fun wx (hx : Ext wr wx) => doneP_any fk o _ wx (HFO.out.V.keep hx) HFB.out hb1 hb2 hb3)
      clear hka hb1 hb2 hb3
      obtain ⟨kk, nn, tt, xx⟩ := o
      simp only at d0 d1 d2 d3
      have ea := HEA.out
      subst ea
      have g0 := HB0.out.cell 0
      have g1 := HB0.out.cell 1
      have g2 := HB0.out.cell 2
      have gw := HB0.out.lt
      have XN := hid (Ext.new (ext_refl wr) (.cells #[.int .i64 kk, .string nn, .string tt, .string xx] 27))
      go_wp2_with fail
      refine Calls.mono (HDO.out _ XN.out) ?_
      rintro e w5 ⟨v', rfl, hv, hx⟩
      have HXR := hid (XN.out.then hx)
      have HFO5 := hid (hv.low (base := w.heap.size + 2) (Nat.le_trans HSW.out XN.out.size))
      have HDB := hid (Fs.don_b fk (kk, nn, tt, xx))
      clear hx hv d0 d1 d2 d3 g0 g1 g2 gw
      replace HX := hid (HX.out.then HXR.out)
      replace HB0 := hid (HB0.out.keep HXR.out)
      replace HB1 := hid (HB1.out.keep HXR.out)
      obtain ⟨E, hE⟩ : ∃ E, E = (Fs.don fk (kk, nn, tt, xx)).2 := ⟨_, rfl⟩
      obtain ⟨fn, hfn⟩ : ∃ fn, fn = (Fs.don fk (kk, nn, tt, xx)).1 := ⟨_, rfl⟩
      rw [← hE] at HD1 HD2 ⊢
      rw [← hfn] at HD1 HFO5 HDB
      obtain ⟨B1, b1', B2, b2', B3, b3', hcs, _, _, _⟩ := id HFO5.out
      obtain ⟨n2, hn2⟩ : ∃ n, n = fn.1.length := ⟨_, rfl⟩
      obtain ⟨m2, hm2⟩ : ∃ n, n = fn.2.1.length := ⟨_, rfl⟩
      obtain ⟨q2, hq2⟩ : ∃ n, n = fn.2.2.length := ⟨_, rfl⟩
      rw [← hn2, ← hm2, ← hq2] at hcs
      subst hcs
      clear hn2 hm2 hq2 hE hfn
      have y0 := HB0.out.frozen 0
      have y1 := HB0.out.frozen 1
      have y2 := HB0.out.frozen 2
      have z0 := HB1.out.frozen 0
      have z1 := HB1.out.frozen 1
      have z2 := HB1.out.frozen 2
      have gw := HB0.out.lt
      have g0 := HB0.out.cell 0
      have g1 := HB0.out.cell 1
      have g2 := HB0.out.cell 2
      have v0 := HB1.out.cell 0
      have v1 := HB1.out.cell 1
      have v2 := HB1.out.cell 2
      have gw1 := HB1.out.lt
      have G1 := hid ((((HB0.out.set 0 (.slice B1 n2 b1')).set 1 (.slice B2 m2 b2')).set 2 (.slice B3 q2 b3')).cast (cs' := #[.slice B1 n2 b1', .slice B2 m2 b2', .slice B3 q2 b3']) (by simp))
      have G3 := hid (((HB1.out.far (p := ⟨w.heap.size, 0, none⟩) (by simp only; omega) (.slice B1 n2 b1')).far (p := ⟨w.heap.size, 1, none⟩) (by simp only; omega) (.slice B2 m2 b2')).far (p := ⟨w.heap.size, 2, none⟩) (by simp only; omega) (.slice B3 q2 b3'))
      have XY := hid (Ext.put (Ext.put (Ext.put HX.out (p := ⟨w.heap.size, 0, none⟩) (by simp only; omega) (.slice B1 n2 b1')) (p := ⟨w.heap.size, 1, none⟩) (by simp only; omega) (.slice B2 m2 b2')) (p := ⟨w.heap.size, 2, none⟩) (by simp only; omega) (.slice B3 q2 b3'))
      have HFO6 := hid (((HFO5.out.put (p := ⟨w.heap.size, 0, none⟩) (by simp only; omega) (.slice B1 n2 b1')).put (p := ⟨w.heap.size, 1, none⟩) (by simp only; omega) (.slice B2 m2 b2')).put (p := ⟨w.heap.size, 2, none⟩) (by simp only; omega) (.slice B3 q2 b3'))
      by_cases hE : E = 0
      · have HRN := hid (HR.out.trans (HD1.out hE))
        subst hE
        go_wp2
        go_roundw
        case rel => exact ⟨j + 1, fn, _, by omega, by go_num, HRN, HDB, G1, HFO6, G3, XY⟩
        case measure => simp [intOf] <;> omega
      · have HRN := hid (HR.out.trans (HD2.out hE))
        have e2 : ((E : Int) != 0) = true := by simp; omega
        clear hE
        go_wp2
        clear G1 HFO6
        generalize ((w5.setCell ⟨w.heap.size, 0, none⟩ (.slice B1 n2 b1')).setCell ⟨w.heap.size, 1, none⟩ (.slice B2 m2 b2')).setCell ⟨w.heap.size, 2, none⟩ (.slice B3 q2 b3') = w6 at *
        have HBF := hid ((((G3.out.set 0 (.slice none 0 0)).set 1 (.slice none 0 0)).set 2 (.slice none 0 0)).cast (cs' := #[.slice none 0 0, .slice none 0 0, .slice none 0 0]) (by simp))
        have XF := hid (Ext.put (Ext.put (Ext.put XY.out (p := ⟨w.heap.size + 1, 0, none⟩) (by simp only; omega) (.slice none 0 0)) (p := ⟨w.heap.size + 1, 1, none⟩) (by simp only; omega) (.slice none 0 0)) (p := ⟨w.heap.size + 1, 2, none⟩) (by simp only; omega) (.slice none 0 0))
        refine bodyPost_ret (results_blk2 rfl _ _ (w.heap.size + 1) 25 _ _ rfl HBF.out Tryd.underlying25 rfl (by kernel_rfl)) rfl ?_
        exact ⟨_, by rw [HR0.out, HRN.out]; rfl, by rw [HR0.out, HRN.out]; exact fs0_O _ _, XF.out⟩
    · obtain rfl : j = k := by omega
      have HRN := hid (show Fs.run f l = (fk, 0) by rw [HR.out, List.drop_eq_nil_of_le (by rw [HLL.out]; exact Nat.le_refl _)]; rfl)
      have g0 := HB0.out.cell 0
      have g1 := HB0.out.cell 1
      have g2 := HB0.out.cell 2
      have z0 := HB1.out.frozen 0
      have z1 := HB1.out.frozen 1
      have z2 := HB1.out.frozen 2
      have gw1 := HB1.out.lt
      have v0 := HB1.out.cell 0
      have v1 := HB1.out.cell 1
      have v2 := HB1.out.cell 2
      go_wp2
      have HBF := hid ((((HB1.out.set 0 (.slice D1 n1 e1)).set 1 (.slice D2 m1 e2)).set 2 (.slice D3 q1 e3)).cast (cs' := #[.slice D1 n1 e1, .slice D2 m1 e2, .slice D3 q1 e3]) (by simp))
      have XF := hid (Ext.put (Ext.put (Ext.put HX.out (p := ⟨w.heap.size + 1, 0, none⟩) (by simp only; omega) (.slice D1 n1 e1)) (p := ⟨w.heap.size + 1, 1, none⟩) (by simp only; omega) (.slice D2 m1 e2)) (p := ⟨w.heap.size + 1, 2, none⟩) (by simp only; omega) (.slice D3 q1 e3))
      have HFOF := hid (((HFO.out.put (p := ⟨w.heap.size + 1, 0, none⟩) (by simp only; omega) (.slice D1 n1 e1)).put (p := ⟨w.heap.size + 1, 1, none⟩) (by simp only; omega) (.slice D2 m1 e2)).put (p := ⟨w.heap.size + 1, 2, none⟩) (by simp only; omega) (.slice D3 q1 e3))
      refine bodyPost_ret (results_blk2 rfl _ _ (w.heap.size + 1) 25 _ _ rfl HBF.out Tryd.underlying25 rfl (by kernel_rfl)) rfl ?_
      exact ⟨_, by rw [HR0.out, HRN.out]; rfl, by rw [HR0.out, HRN.out]; exact HFOF.out.low (Nat.le_add_right _ _), XF.out⟩
theorem play_any (f : Fs.FSy) (l : List Fs.Opn) (A : Option Addr) (k kc : Nat) (v : Value) (w : World) (hv : FsV w v f) (hb : Fs.FsB f) (hl : l.length = k) (hr : Rd w A (Fs.ops l)) (hkl : k ≤ 140737488355328) (hlb : ∀ o ∈ l, Fs.OpB o) :
    Calls Tryd.prog 22 #[v, .slice A k kc] w fun e w' => ∃ v', e = .returned (.tuple #[v', .int .i64 ((Fs.ply f l).2 : Nat)]) ∧ FsO w' w.heap.size v' (Fs.ply f l).1 ∧ Ext w w' := by
  by_cases h : Fs.fsck f = 0
  · by_cases h2 : 64 < l.length
    · exact play_many f l A k kc v w hv hb hl hr hkl hlb h h2
    · exact play_good f l A k kc v w hv hb hl hr hkl hlb h h2
  · exact play_bad f l A k kc v w hv hb hl hr hkl hlb h
end Go.Proofs.YtolhifnlahllnaaDoor
