/- Files: the law FsPlays: walk (printed by gen_fto.py). -/
import Derived.Test.YtolhifnlahllnaaDoorFzf
import Derived.Test.YtolhifnlahllnaaDoorSli
namespace Go.Proofs.YtolhifnlahllnaaDoor
open Go.RowKit Hy
set_option maxHeartbeats 3200000 in
set_option maxRecDepth 100000 in
theorem fsPlays_err (f : Fs.FSy) (l : List Fs.Opn) (A : Option Addr) (k kc : Nat) (j : Int) (v : Value) (w : World) (hv : FsV w v f) (hb : Fs.FsB f) (hl : l.length = k) (hr : Rd w A (Fs.ops l)) (hkl : k ≤ 140737488355328) (hlb : ∀ o ∈ l, Fs.OpB o) (h0 : (Fs.ply f l).2 ≠ 0) :
    Calls Tryd.prog 4 #[v, .slice A k kc, .int .i64 j] w fun e w' => e = .returned (.bool true) ∧ Ext w w' := by
  have HB := hid hb
  have HPB := hid (@Fs.ply_b f l)
  have HP1 := hid (fun wx (hx : Ext w wx) (hw : FsV wx v f) => play_V f l A k kc v wx hw hb hl (hr.keep hx) hkl hlb)
  have HP2 := hid (fun wx (hx : Ext w wx) (hw : FsV wx v f) => playedOf_any f l A k kc v wx hw hb hl (hr.keep hx) hkl hlb)
  have hkI : (k : Int) ≤ 140737488355328 := by omega
  have HV := hid hv
  obtain ⟨NA, nn, nc, DA, dn, dc, SA, sn, sc, rfl⟩ := hv.shape
  obtain ⟨E, hE⟩ : ∃ E, E = (Fs.ply f l).2 := ⟨_, rfl⟩
  rw [← hE] at HP1 HP2 h0
  have e2 : ((E : Int) != 0) = true := by simp; omega
  clear hv hb hl hr hkl hlb h0 hE
  go_enter Tryd.func4, Tryd.ntmps4
  go_upto_region 1 with fail
  refine wp_gen (fun w' => Ext w w' ∧ Blk w' w.heap.size 25 #[.slice NA nn nc, .slice DA dn dc, .slice SA sn sc]) ⟨(ext_refl _).new _, Blk.new _ _ _⟩ ?_
  rintro wz ⟨B0, B1⟩
  have X : Hid (Ext w wz) := hid B0
  have F1 := hid B1
  replace HV := hid (HV.out.keep B0)
  clear B0 B1
  have p0 := F1.out.cell 0
  have p1 := F1.out.cell 1
  have p2 := F1.out.cell 2
  go_wp2_with fail
  refine Calls.mono (HP1.out _ X.out HV.out) ?_
  rintro e w1 ⟨v', rfl, hv, hx⟩
  obtain ⟨A1a, n1a, c1a, A2a, n2a, c2a, A3a, n3a, c3a, rfl⟩ := hv.shape
  have hn := Ext.new (ext_refl w1) (.cells #[.slice A1a n1a c1a, .slice A2a n2a c2a, .slice A3a n3a c3a] 25)
  have Ba := hid (Blk.new w1 25 #[.slice A1a n1a c1a, .slice A2a n2a c2a, .slice A3a n3a c3a])
  have Va := hid (hv.keep hn)
  have hy := Ext.then hx hn
  replace X := hid (X.out.then hy)
  replace HV := hid (HV.out.keep hy)
  replace F1 := hid (F1.out.keep hy)
  clear hx hv hn hy
  clear p0 p1 p2
  have p0 := F1.out.cell 0
  have p1 := F1.out.cell 1
  have p2 := F1.out.cell 2
  go_wp2_with fail
  refine Calls.mono (HP2.out _ X.out HV.out) ?_
  rintro e w2 ⟨v', rfl, hv, hx⟩
  obtain ⟨A1b, n1b, c1b, A2b, n2b, c2b, A3b, n3b, c3b, rfl⟩ := hv.shape
  have hn := Ext.new (ext_refl w2) (.cells #[.slice A1b n1b c1b, .slice A2b n2b c2b, .slice A3b n3b c3b] 25)
  have Bb := hid (Blk.new w2 25 #[.slice A1b n1b c1b, .slice A2b n2b c2b, .slice A3b n3b c3b])
  have Vb := hid (hv.keep hn)
  have hy := Ext.then hx hn
  replace X := hid (X.out.then hy)
  replace HV := hid (HV.out.keep hy)
  replace Va := hid (Va.out.keep hy)
  replace F1 := hid (F1.out.keep hy)
  replace Ba := hid (Ba.out.keep hy)
  clear hx hv hn hy
  clear p0 p1 p2
  go_wp2_with fail
  refine Calls.mono (fsBegun_any _) ?_
  rintro e w3 ⟨rfl, hx⟩
  replace X := hid (X.out.then hx)
  replace HV := hid (HV.out.keep hx)
  replace F1 := hid (F1.out.keep hx)
  replace Va := hid (Va.out.keep hx)
  replace Ba := hid (Ba.out.keep hx)
  replace Vb := hid (Vb.out.keep hx)
  replace Bb := hid (Bb.out.keep hx)
  clear hx
  have a0 := Ba.out.cell 0
  have a1 := Ba.out.cell 1
  have a2 := Ba.out.cell 2
  have b0 := Bb.out.cell 0
  have b1 := Bb.out.cell 1
  have b2 := Bb.out.cell 2
  go_wp2_with fail
  refine Calls.mono (sameFS_same _ _ _ _ Va.out Vb.out HPB.out) ?_
  rintro e w4 ⟨rfl, hx⟩
  replace X := hid (X.out.then hx)
  replace HV := hid (HV.out.keep hx)
  replace F1 := hid (F1.out.keep hx)
  replace Va := hid (Va.out.keep hx)
  replace Ba := hid (Ba.out.keep hx)
  clear hx
  clear a0 a1 a2 b0 b1 b2 Vb Bb
  go_wp2
  go_returns
  exact ⟨rfl, X.out⟩
set_option maxHeartbeats 3200000 in
set_option maxRecDepth 100000 in
theorem fsPlays_out (f : Fs.FSy) (l : List Fs.Opn) (A : Option Addr) (k kc : Nat) (j : Int) (v : Value) (w : World) (hv : FsV w v f) (hb : Fs.FsB f) (hl : l.length = k) (hr : Rd w A (Fs.ops l)) (hkl : k ≤ 140737488355328) (hlb : ∀ o ∈ l, Fs.OpB o) (h0 : (Fs.ply f l).2 = 0) (hj : j < 0 ∨ (k : Int) < j) :
    Calls Tryd.prog 4 #[v, .slice A k kc, .int .i64 j] w fun e w' => e = .returned (.bool true) ∧ Ext w w' := by
  have HB := hid hb
  have HPB := hid (@Fs.ply_b f l)
  have HP1 := hid (fun wx (hx : Ext w wx) (hw : FsV wx v f) => play_V f l A k kc v wx hw hb hl (hr.keep hx) hkl hlb)
  have HP2 := hid (fun wx (hx : Ext w wx) (hw : FsV wx v f) => playedOf_any f l A k kc v wx hw hb hl (hr.keep hx) hkl hlb)
  have hkI : (k : Int) ≤ 140737488355328 := by omega
  have HV := hid hv
  obtain ⟨NA, nn, nc, DA, dn, dc, SA, sn, sc, rfl⟩ := hv.shape
  rw [h0] at HP1 HP2
  clear hv hb hl hr hkl hlb h0
  rcases hj with hj | hj
  · have hj1 : decide (j < 0) = true := decide_eq_true hj
    go_enter Tryd.func4, Tryd.ntmps4
    go_upto_region 1 with fail
    refine wp_gen (fun w' => Ext w w' ∧ Blk w' w.heap.size 25 #[.slice NA nn nc, .slice DA dn dc, .slice SA sn sc]) ⟨(ext_refl _).new _, Blk.new _ _ _⟩ ?_
    rintro wz ⟨B0, B1⟩
    have X : Hid (Ext w wz) := hid B0
    have F1 := hid B1
    replace HV := hid (HV.out.keep B0)
    clear B0 B1
    have p0 := F1.out.cell 0
    have p1 := F1.out.cell 1
    have p2 := F1.out.cell 2
    go_wp2_with fail
    refine Calls.mono (HP1.out _ X.out HV.out) ?_
    rintro e w1 ⟨v', rfl, hv, hx⟩
    obtain ⟨A1a, n1a, c1a, A2a, n2a, c2a, A3a, n3a, c3a, rfl⟩ := hv.shape
    have hn := Ext.new (ext_refl w1) (.cells #[.slice A1a n1a c1a, .slice A2a n2a c2a, .slice A3a n3a c3a] 25)
    have Ba := hid (Blk.new w1 25 #[.slice A1a n1a c1a, .slice A2a n2a c2a, .slice A3a n3a c3a])
    have Va := hid (hv.keep hn)
    have hy := Ext.then hx hn
    replace X := hid (X.out.then hy)
    replace HV := hid (HV.out.keep hy)
    replace F1 := hid (F1.out.keep hy)
    clear hx hv hn hy
    clear p0 p1 p2
    have p0 := F1.out.cell 0
    have p1 := F1.out.cell 1
    have p2 := F1.out.cell 2
    go_wp2_with fail
    refine Calls.mono (HP2.out _ X.out HV.out) ?_
    rintro e w2 ⟨v', rfl, hv, hx⟩
    obtain ⟨A1b, n1b, c1b, A2b, n2b, c2b, A3b, n3b, c3b, rfl⟩ := hv.shape
    have hn := Ext.new (ext_refl w2) (.cells #[.slice A1b n1b c1b, .slice A2b n2b c2b, .slice A3b n3b c3b] 25)
    have Bb := hid (Blk.new w2 25 #[.slice A1b n1b c1b, .slice A2b n2b c2b, .slice A3b n3b c3b])
    have Vb := hid (hv.keep hn)
    have hy := Ext.then hx hn
    replace X := hid (X.out.then hy)
    replace HV := hid (HV.out.keep hy)
    replace Va := hid (Va.out.keep hy)
    replace F1 := hid (F1.out.keep hy)
    replace Ba := hid (Ba.out.keep hy)
    clear hx hv hn hy
    clear p0 p1 p2
    go_wp2_with fail
    refine Calls.mono (fsBegun_any _) ?_
    rintro e w3 ⟨rfl, hx⟩
    replace X := hid (X.out.then hx)
    replace HV := hid (HV.out.keep hx)
    replace F1 := hid (F1.out.keep hx)
    replace Va := hid (Va.out.keep hx)
    replace Ba := hid (Ba.out.keep hx)
    replace Vb := hid (Vb.out.keep hx)
    replace Bb := hid (Bb.out.keep hx)
    clear hx
    have a0 := Ba.out.cell 0
    have a1 := Ba.out.cell 1
    have a2 := Ba.out.cell 2
    have b0 := Bb.out.cell 0
    have b1 := Bb.out.cell 1
    have b2 := Bb.out.cell 2
    go_wp2_with fail
    refine Calls.mono (sameFS_same _ _ _ _ Va.out Vb.out HPB.out) ?_
    rintro e w4 ⟨rfl, hx⟩
    replace X := hid (X.out.then hx)
    replace HV := hid (HV.out.keep hx)
    replace F1 := hid (F1.out.keep hx)
    replace Va := hid (Va.out.keep hx)
    replace Ba := hid (Ba.out.keep hx)
    clear hx
    clear a0 a1 a2 b0 b1 b2 Vb Bb
    go_wp2
    go_returns
    exact ⟨rfl, X.out⟩
  · have hj1 : ¬ j < 0 := by omega
    go_enter Tryd.func4, Tryd.ntmps4
    go_upto_region 1 with fail
    refine wp_gen (fun w' => Ext w w' ∧ Blk w' w.heap.size 25 #[.slice NA nn nc, .slice DA dn dc, .slice SA sn sc]) ⟨(ext_refl _).new _, Blk.new _ _ _⟩ ?_
    rintro wz ⟨B0, B1⟩
    have X : Hid (Ext w wz) := hid B0
    have F1 := hid B1
    replace HV := hid (HV.out.keep B0)
    clear B0 B1
    have p0 := F1.out.cell 0
    have p1 := F1.out.cell 1
    have p2 := F1.out.cell 2
    go_wp2_with fail
    refine Calls.mono (HP1.out _ X.out HV.out) ?_
    rintro e w1 ⟨v', rfl, hv, hx⟩
    obtain ⟨A1a, n1a, c1a, A2a, n2a, c2a, A3a, n3a, c3a, rfl⟩ := hv.shape
    have hn := Ext.new (ext_refl w1) (.cells #[.slice A1a n1a c1a, .slice A2a n2a c2a, .slice A3a n3a c3a] 25)
    have Ba := hid (Blk.new w1 25 #[.slice A1a n1a c1a, .slice A2a n2a c2a, .slice A3a n3a c3a])
    have Va := hid (hv.keep hn)
    have hy := Ext.then hx hn
    replace X := hid (X.out.then hy)
    replace HV := hid (HV.out.keep hy)
    replace F1 := hid (F1.out.keep hy)
    clear hx hv hn hy
    clear p0 p1 p2
    have p0 := F1.out.cell 0
    have p1 := F1.out.cell 1
    have p2 := F1.out.cell 2
    go_wp2_with fail
    refine Calls.mono (HP2.out _ X.out HV.out) ?_
    rintro e w2 ⟨v', rfl, hv, hx⟩
    obtain ⟨A1b, n1b, c1b, A2b, n2b, c2b, A3b, n3b, c3b, rfl⟩ := hv.shape
    have hn := Ext.new (ext_refl w2) (.cells #[.slice A1b n1b c1b, .slice A2b n2b c2b, .slice A3b n3b c3b] 25)
    have Bb := hid (Blk.new w2 25 #[.slice A1b n1b c1b, .slice A2b n2b c2b, .slice A3b n3b c3b])
    have Vb := hid (hv.keep hn)
    have hy := Ext.then hx hn
    replace X := hid (X.out.then hy)
    replace HV := hid (HV.out.keep hy)
    replace Va := hid (Va.out.keep hy)
    replace F1 := hid (F1.out.keep hy)
    replace Ba := hid (Ba.out.keep hy)
    clear hx hv hn hy
    clear p0 p1 p2
    go_wp2_with fail
    refine Calls.mono (fsBegun_any _) ?_
    rintro e w3 ⟨rfl, hx⟩
    replace X := hid (X.out.then hx)
    replace HV := hid (HV.out.keep hx)
    replace F1 := hid (F1.out.keep hx)
    replace Va := hid (Va.out.keep hx)
    replace Ba := hid (Ba.out.keep hx)
    replace Vb := hid (Vb.out.keep hx)
    replace Bb := hid (Bb.out.keep hx)
    clear hx
    have a0 := Ba.out.cell 0
    have a1 := Ba.out.cell 1
    have a2 := Ba.out.cell 2
    have b0 := Bb.out.cell 0
    have b1 := Bb.out.cell 1
    have b2 := Bb.out.cell 2
    go_wp2_with fail
    refine Calls.mono (sameFS_same _ _ _ _ Va.out Vb.out HPB.out) ?_
    rintro e w4 ⟨rfl, hx⟩
    replace X := hid (X.out.then hx)
    replace HV := hid (HV.out.keep hx)
    replace F1 := hid (F1.out.keep hx)
    replace Va := hid (Va.out.keep hx)
    replace Ba := hid (Ba.out.keep hx)
    clear hx
    clear a0 a1 a2 b0 b1 b2 Vb Bb
    go_wp2
    go_returns
    exact ⟨rfl, X.out⟩
set_option maxHeartbeats 3200000 in
set_option maxRecDepth 100000 in
theorem fsPlays_in (f : Fs.FSy) (l : List Fs.Opn) (A : Option Addr) (k kc : Nat) (j : Int) (v : Value) (w : World) (hv : FsV w v f) (hb : Fs.FsB f) (hl : l.length = k) (hr : Rd w A (Fs.ops l)) (hkl : k ≤ 140737488355328) (hlb : ∀ o ∈ l, Fs.OpB o) (hc : k ≤ kc) (jn : Nat) (hjn : jn ≤ k) (hjv : j = (jn : Int)) (h0 : (Fs.ply f l).2 = 0) :
    Calls Tryd.prog 4 #[v, .slice A k kc, .int .i64 j] w fun e w' => e = .returned (.bool true) ∧ Ext w w' := by
  have HB := hid hb
  have HPB := hid (@Fs.ply_b f l)
  have HP1 := hid (fun wx (hx : Ext w wx) (hw : FsV wx v f) => play_V f l A k kc v wx hw hb hl (hr.keep hx) hkl hlb)
  have HP2 := hid (fun wx (hx : Ext w wx) (hw : FsV wx v f) => playedOf_any f l A k kc v wx hw hb hl (hr.keep hx) hkl hlb)
  have hkI : (k : Int) ≤ 140737488355328 := by omega
  have HV := hid hv
  obtain ⟨NA, nn, nc, DA, dn, dc, SA, sn, sc, rfl⟩ := hv.shape
  subst hjv
  obtain ⟨p1, p2, p3⟩ := Fs.ply_parts (k := jn) h0
  obtain ⟨FA, hFA⟩ : ∃ F, F = (Fs.ply f l).1 := ⟨_, rfl⟩
  obtain ⟨F1', hF1⟩ : ∃ F, F = (Fs.ply f (l.take jn)).1 := ⟨_, rfl⟩
  have HT1 := hid (show Fs.ply f (l.take jn) = (F1', 0) from Prod.ext hF1.symm p1)
  rw [← hF1] at p3
  have HT2 := hid (show Fs.ply F1' (l.drop jn) = (FA, 0) by rw [p3]; exact Prod.ext hFA.symm h0)
  have HBF1 := hid (show Fs.FsB F1' by rw [hF1]; exact Fs.ply_b)
  have HLT := hid (show (l.take jn).length = jn by rw [List.length_take]; omega)
  have HLD := hid (show (l.drop jn).length = k - jn by rw [List.length_drop, hl])
  have HRT := hid (show Rd w A (Fs.ops (l.take jn)) from Rd.take hr jn)
  have HRF := hid (show Rd w (slF A jn kc 4) (Fs.ops (l.drop jn)) from Rd.from (m := 4) (fun _ => rfl) hr jn kc (by omega))
  have HJ64 := hid (show jn ≤ 140737488355328 by omega)
  have HKJ := hid (show k - jn ≤ 140737488355328 by omega)
  have HLB1 := hid (show ∀ o ∈ l.take jn, Fs.OpB o from fun o ho => hlb o (List.mem_of_mem_take ho))
  have HLB2 := hid (show ∀ o ∈ l.drop jn, Fs.OpB o from fun o ho => hlb o (List.mem_of_mem_drop ho))
  have sl1 := sl_to (P := Tryd.prog) (t := 39) (e := 27) (m := 4) Tryd.underlying39 (by kernel_rfl) A k kc .i64 jn (by omega)
  have sl2 := sl_from (P := Tryd.prog) (t := 39) (e := 27) (m := 4) Tryd.underlying39 (by kernel_rfl) A k kc .i64 jn hjn
  have hjI : (jn : Int) ≤ (k : Int) := by omega
  rw [h0, ← hFA] at HP1 HP2
  rw [← hFA] at HPB
  clear hv hb hl hr hkl hlb h0 p1 p2 p3 hFA hF1 hc hjn
  go_enter Tryd.func4, Tryd.ntmps4
  go_upto_region 1 with fail
  refine wp_gen (fun w' => Ext w w' ∧ Blk w' w.heap.size 25 #[.slice NA nn nc, .slice DA dn dc, .slice SA sn sc]) ⟨(ext_refl _).new _, Blk.new _ _ _⟩ ?_
  rintro wz ⟨B0, B1⟩
  have X : Hid (Ext w wz) := hid B0
  have F1 := hid B1
  replace HV := hid (HV.out.keep B0)
  clear B0 B1
  have p0 := F1.out.cell 0
  have p1 := F1.out.cell 1
  have p2 := F1.out.cell 2
  go_wp2_with fail
  refine Calls.mono (HP1.out _ X.out HV.out) ?_
  rintro e w1 ⟨v', rfl, hv, hx⟩
  obtain ⟨A1a, n1a, c1a, A2a, n2a, c2a, A3a, n3a, c3a, rfl⟩ := hv.shape
  have hn := Ext.new (ext_refl w1) (.cells #[.slice A1a n1a c1a, .slice A2a n2a c2a, .slice A3a n3a c3a] 25)
  have Ba := hid (Blk.new w1 25 #[.slice A1a n1a c1a, .slice A2a n2a c2a, .slice A3a n3a c3a])
  have Va := hid (hv.keep hn)
  have hy := Ext.then hx hn
  replace X := hid (X.out.then hy)
  replace HV := hid (HV.out.keep hy)
  replace F1 := hid (F1.out.keep hy)
  clear hx hv hn hy
  clear p0 p1 p2
  have p0 := F1.out.cell 0
  have p1 := F1.out.cell 1
  have p2 := F1.out.cell 2
  go_wp2_with fail
  refine Calls.mono (HP2.out _ X.out HV.out) ?_
  rintro e w2 ⟨v', rfl, hv, hx⟩
  obtain ⟨A1b, n1b, c1b, A2b, n2b, c2b, A3b, n3b, c3b, rfl⟩ := hv.shape
  have hn := Ext.new (ext_refl w2) (.cells #[.slice A1b n1b c1b, .slice A2b n2b c2b, .slice A3b n3b c3b] 25)
  have Bb := hid (Blk.new w2 25 #[.slice A1b n1b c1b, .slice A2b n2b c2b, .slice A3b n3b c3b])
  have Vb := hid (hv.keep hn)
  have hy := Ext.then hx hn
  replace X := hid (X.out.then hy)
  replace HV := hid (HV.out.keep hy)
  replace Va := hid (Va.out.keep hy)
  replace F1 := hid (F1.out.keep hy)
  replace Ba := hid (Ba.out.keep hy)
  clear hx hv hn hy
  clear p0 p1 p2
  go_wp2_with fail
  refine Calls.mono (fsBegun_any _) ?_
  rintro e w3 ⟨rfl, hx⟩
  replace X := hid (X.out.then hx)
  replace HV := hid (HV.out.keep hx)
  replace F1 := hid (F1.out.keep hx)
  replace Va := hid (Va.out.keep hx)
  replace Ba := hid (Ba.out.keep hx)
  replace Vb := hid (Vb.out.keep hx)
  replace Bb := hid (Bb.out.keep hx)
  clear hx
  have a0 := Ba.out.cell 0
  have a1 := Ba.out.cell 1
  have a2 := Ba.out.cell 2
  have b0 := Bb.out.cell 0
  have b1 := Bb.out.cell 1
  have b2 := Bb.out.cell 2
  go_wp2_with fail
  refine Calls.mono (sameFS_same _ _ _ _ Va.out Vb.out HPB.out) ?_
  rintro e w4 ⟨rfl, hx⟩
  replace X := hid (X.out.then hx)
  replace HV := hid (HV.out.keep hx)
  replace F1 := hid (F1.out.keep hx)
  replace Va := hid (Va.out.keep hx)
  replace Ba := hid (Ba.out.keep hx)
  clear hx
  clear a0 a1 a2 b0 b1 b2 Vb Bb
  have p0 := F1.out.cell 0
  have p1 := F1.out.cell 1
  have p2 := F1.out.cell 2
  go_upto_region 7 with fail
  have p0r := cell_regrown p0
  have p1r := cell_regrown p1
  have p2r := cell_regrown p2
  apply wp_cutFS (F := fun x g A1 n1 c1 A2 n2 c2 A3 n3 c3 w' => Hid (Ext w4 w') ∧ Hid (Blk w' g 25 #[.slice A1 n1 c1, .slice A2 n2 c2, .slice A3 n3 c3]) ∧ Hid (FsV w' (.agg #[.slice A1 n1 c1, .slice A2 n2 c2, .slice A3 n3 c3]) (F1')))
  case h1 =>
    refine wp_region_tree (.one 0 true (.one 1 true (.one 2 true (.one 3 true (.two 4 8 (.one 5 true (.one 6 true (.one 7 true (.one 8 false (.one 9 false (.one 10 true (.nil))))))) (.one 4 false (.one 5 true (.one 6 true (.one 7 true (.one 9 false (.one 10 true (.nil)))))))))))) (by kernel_rfl) (by kernel_rfl) (by rintro _ _ _ _ _ ⟨h, _⟩; cases h) (by kernel_rfl) (by rfl) ?_
    simp only [fillT, List.getD_cons_zero, List.getD_cons_succ]
    have Y0 : Ext w4 w4.drew := (ext_refl w4).draw
    generalize w4.drew = y0 at Y0 ⊢
    repeat (refine wpTO_val (by rfl) ?_; intro K hK; go_big_quiet_op; go_big_quiet_on)
    refine wpTO_two ?_ ?_
    · refine wpTO_do (by rfl) ?_
      intro K hK
      go_simp
      refine Calls.mono (play_any f (l.take jn) A jn kc _ y0 (HV.out.keep Y0) HB.out HLT.out ((HRT.out.keep X.out).keep Y0) HJ64.out HLB1.out) ?_
      rintro e y1 ⟨v', he, FO, hx⟩
      rw [HT1.out] at he FO
      obtain rfl := he
      obtain ⟨A1, c1, A2, c2, A3, c3, hsh, _, _, _⟩ := id FO
      obtain ⟨n1, hn1⟩ : ∃ n, n = (F1').1.length := ⟨_, rfl⟩
      obtain ⟨n2, hn2⟩ : ∃ n, n = (F1').2.1.length := ⟨_, rfl⟩
      obtain ⟨n3, hn3⟩ : ∃ n, n = (F1').2.2.length := ⟨_, rfl⟩
      rw [← hn1, ← hn2, ← hn3] at hsh
      subst hsh
      have Y1 := Ext.then Y0 hx
      refine hK _ _ Y1 ?_
      clear K hK hx hn1 hn2 hn3
      repeat (refine wpTO_val (by rfl) ?_; intro K hK; go_big_quiet_op; go_big_quiet_on)
      refine wpTO_do (by rfl) ?_
      intro K hK
      go_simp
      replace FO := FsO.keep FO (Ext.new (ext_refl y1) (.cells #[.slice none 0 0, .slice none 0 0, .slice none 0 0] 25))
      have BG := Blk.new y1 25 #[.slice none 0 0, .slice none 0 0, .slice none 0 0]
      have Y2 := Ext.new Y1 (.cells #[.slice none 0 0, .slice none 0 0, .slice none 0 0] 25)
      have hgs := (Y1).size
      obtain ⟨g, hg⟩ : ∃ g, g = (y1 : World).heap.size := ⟨_, rfl⟩
      rw [← hg] at BG hgs ⊢
      generalize (y1 : World).alloc (.cells #[.slice none 0 0, .slice none 0 0, .slice none 0 0] 25) = y2 at *
      refine hK _ _ Y2 ?_
      clear K hK hg
      have q0 := BG.cell 0
      have q1 := BG.cell 1
      have q2 := BG.cell 2
      have f0 := BG.frozen 0
      have f1 := BG.frozen 1
      have f2 := BG.frozen 2
      refine wpTO_do (by rfl) ?_
      intro K hK
      go_simp
      refine hK _ _ (Ext.put (Ext.put (Ext.put Y2 (p := ⟨g, 0, none⟩) hgs (.slice A1 n1 c1)) (p := ⟨g, 1, none⟩) hgs (.slice A2 n2 c2)) (p := ⟨g, 2, none⟩) hgs (.slice A3 n3 c3)) ?_
      clear K hK
      repeat (refine wpTO_val (by rfl) ?_; intro K hK; go_big_quiet_op; go_big_quiet_on)
      refine wpTO_nil ?_
      obtain ⟨gx, _⟩ : ∃ x : Nat, x = 0 := ⟨0, rfl⟩
      refine ⟨rfl, gx, g, A1, n1, c1, A2, n2, c2, A3, n3, c3, rfl, hid (Ext.put (Ext.put (Ext.put Y2 (p := ⟨g, 0, none⟩) hgs (.slice A1 n1 c1)) (p := ⟨g, 1, none⟩) hgs (.slice A2 n2 c2)) (p := ⟨g, 2, none⟩) hgs (.slice A3 n3 c3)), hid ((((BG.set 0 (.slice A1 n1 c1)).set 1 (.slice A2 n2 c2)).set 2 (.slice A3 n3 c3)).cast (by simp)), hid (((FO.putB BG 0 _).putB (BG.set 0 _) 1 _).putB ((BG.set 0 _).set 1 _) 2 _).V⟩
    · refine wpTO_do (by rfl) ?_
      intro K hK
      go_simp
      have BG := Blk.new y0 25 #[.slice none 0 0, .slice none 0 0, .slice none 0 0]
      have Y3 := Ext.new Y0 (.cells #[.slice none 0 0, .slice none 0 0, .slice none 0 0] 25)
      have hgs := (Y0).size
      obtain ⟨g, hg⟩ : ∃ g, g = (y0 : World).heap.size := ⟨_, rfl⟩
      rw [← hg] at BG hgs ⊢
      generalize (y0 : World).alloc (.cells #[.slice none 0 0, .slice none 0 0, .slice none 0 0] 25) = y3 at *
      refine hK _ _ Y3 ?_
      clear K hK hg
      refine wpTO_do (by rfl) ?_
      intro K hK
      go_simp
      refine Calls.mono (play_any f (l.take jn) A jn kc _ y3 (HV.out.keep Y3) HB.out HLT.out ((HRT.out.keep X.out).keep Y3) HJ64.out HLB1.out) ?_
      rintro e y4 ⟨v', he, FO, hx⟩
      rw [HT1.out] at he FO
      obtain rfl := he
      obtain ⟨A1, c1, A2, c2, A3, c3, hsh, _, _, _⟩ := id FO
      obtain ⟨n1, hn1⟩ : ∃ n, n = (F1').1.length := ⟨_, rfl⟩
      obtain ⟨n2, hn2⟩ : ∃ n, n = (F1').2.1.length := ⟨_, rfl⟩
      obtain ⟨n3, hn3⟩ : ∃ n, n = (F1').2.2.length := ⟨_, rfl⟩
      rw [← hn1, ← hn2, ← hn3] at hsh
      subst hsh
      have Y4 := Ext.then Y3 hx
      replace BG := Blk.keep BG (hx)
      refine hK _ _ Y4 ?_
      clear K hK hx hn1 hn2 hn3
      repeat (refine wpTO_val (by rfl) ?_; intro K hK; go_big_quiet_op; go_big_quiet_on)
      have q0 := BG.cell 0
      have q1 := BG.cell 1
      have q2 := BG.cell 2
      have f0 := BG.frozen 0
      have f1 := BG.frozen 1
      have f2 := BG.frozen 2
      refine wpTO_do (by rfl) ?_
      intro K hK
      go_simp
      refine hK _ _ (Ext.put (Ext.put (Ext.put Y4 (p := ⟨g, 0, none⟩) hgs (.slice A1 n1 c1)) (p := ⟨g, 1, none⟩) hgs (.slice A2 n2 c2)) (p := ⟨g, 2, none⟩) hgs (.slice A3 n3 c3)) ?_
      clear K hK
      repeat (refine wpTO_val (by rfl) ?_; intro K hK; go_big_quiet_op; go_big_quiet_on)
      refine wpTO_nil ?_
      obtain ⟨gx, _⟩ : ∃ x : Nat, x = 0 := ⟨0, rfl⟩
      refine ⟨rfl, gx, g, A1, n1, c1, A2, n2, c2, A3, n3, c3, rfl, hid (Ext.put (Ext.put (Ext.put Y4 (p := ⟨g, 0, none⟩) hgs (.slice A1 n1 c1)) (p := ⟨g, 1, none⟩) hgs (.slice A2 n2 c2)) (p := ⟨g, 2, none⟩) hgs (.slice A3 n3 c3)), hid ((((BG.set 0 (.slice A1 n1 c1)).set 1 (.slice A2 n2 c2)).set 2 (.slice A3 n3 c3)).cast (by simp)), hid (((FO.putB BG 0 _).putB (BG.set 0 _) 1 _).putB ((BG.set 0 _).set 1 _) 2 _).V⟩
  rintro xc gc A1c n1c c1c A2c n2c c2c A3c n3c c3c y1' ⟨XQ, Bc, Vc⟩
  replace X := hid (X.out.then XQ.out)
  replace HV := hid (HV.out.keep XQ.out)
  replace Va := hid (Va.out.keep XQ.out)
  replace F1 := hid (F1.out.keep XQ.out)
  replace Ba := hid (Ba.out.keep XQ.out)
  clear XQ
  clear p0 p1 p2 p0r p1r p2r
  have c0 := Bc.out.cell 0
  have c1 := Bc.out.cell 1
  have c2 := Bc.out.cell 2
  go_upto_region 8 with fail
  have c0r := cell_regrown c0
  have c1r := cell_regrown c1
  have c2r := cell_regrown c2
  apply wp_cutFS (F := fun x g A1 n1 c1 A2 n2 c2 A3 n3 c3 w' => Hid (Ext y1' w') ∧ Hid (Blk w' g 25 #[.slice A1 n1 c1, .slice A2 n2 c2, .slice A3 n3 c3]) ∧ Hid (FsV w' (.agg #[.slice A1 n1 c1, .slice A2 n2 c2, .slice A3 n3 c3]) (FA)))
  case h1 =>
    refine wp_region_tree (.one 0 true (.one 1 true (.one 2 true (.one 3 true (.two 4 8 (.one 5 true (.one 6 true (.one 7 true (.one 8 false (.one 9 false (.one 10 true (.nil))))))) (.one 4 false (.one 5 true (.one 6 true (.one 7 true (.one 9 false (.one 10 true (.nil)))))))))))) (by kernel_rfl) (by kernel_rfl) (by rintro _ _ _ _ _ ⟨h, _⟩; cases h) (by kernel_rfl) (by rfl) ?_
    simp only [fillT, List.getD_cons_zero, List.getD_cons_succ]
    have Y0 : Ext y1' y1'.drew := (ext_refl y1').draw
    generalize y1'.drew = y0 at Y0 ⊢
    repeat (refine wpTO_val (by rfl) ?_; intro K hK; go_big_quiet_op; go_big_quiet_on)
    refine wpTO_two ?_ ?_
    · refine wpTO_do (by rfl) ?_
      intro K hK
      go_simp
      refine Calls.mono (play_any F1' (l.drop jn) (slF A jn kc 4) (k - jn) (kc - jn) _ y0 (Vc.out.keep Y0) HBF1.out HLD.out ((HRF.out.keep X.out).keep Y0) HKJ.out HLB2.out) ?_
      rintro e y1 ⟨v', he, FO, hx⟩
      rw [HT2.out] at he FO
      obtain rfl := he
      obtain ⟨A1, c1, A2, c2, A3, c3, hsh, _, _, _⟩ := id FO
      obtain ⟨n1, hn1⟩ : ∃ n, n = (FA).1.length := ⟨_, rfl⟩
      obtain ⟨n2, hn2⟩ : ∃ n, n = (FA).2.1.length := ⟨_, rfl⟩
      obtain ⟨n3, hn3⟩ : ∃ n, n = (FA).2.2.length := ⟨_, rfl⟩
      rw [← hn1, ← hn2, ← hn3] at hsh
      subst hsh
      have Y1 := Ext.then Y0 hx
      refine hK _ _ Y1 ?_
      clear K hK hx hn1 hn2 hn3
      repeat (refine wpTO_val (by rfl) ?_; intro K hK; go_big_quiet_op; go_big_quiet_on)
      refine wpTO_do (by rfl) ?_
      intro K hK
      go_simp
      replace FO := FsO.keep FO (Ext.new (ext_refl y1) (.cells #[.slice none 0 0, .slice none 0 0, .slice none 0 0] 25))
      have BG := Blk.new y1 25 #[.slice none 0 0, .slice none 0 0, .slice none 0 0]
      have Y2 := Ext.new Y1 (.cells #[.slice none 0 0, .slice none 0 0, .slice none 0 0] 25)
      have hgs := (Y1).size
      obtain ⟨g, hg⟩ : ∃ g, g = (y1 : World).heap.size := ⟨_, rfl⟩
      rw [← hg] at BG hgs ⊢
      generalize (y1 : World).alloc (.cells #[.slice none 0 0, .slice none 0 0, .slice none 0 0] 25) = y2 at *
      refine hK _ _ Y2 ?_
      clear K hK hg
      have q0 := BG.cell 0
      have q1 := BG.cell 1
      have q2 := BG.cell 2
      have f0 := BG.frozen 0
      have f1 := BG.frozen 1
      have f2 := BG.frozen 2
      refine wpTO_do (by rfl) ?_
      intro K hK
      go_simp
      refine hK _ _ (Ext.put (Ext.put (Ext.put Y2 (p := ⟨g, 0, none⟩) hgs (.slice A1 n1 c1)) (p := ⟨g, 1, none⟩) hgs (.slice A2 n2 c2)) (p := ⟨g, 2, none⟩) hgs (.slice A3 n3 c3)) ?_
      clear K hK
      repeat (refine wpTO_val (by rfl) ?_; intro K hK; go_big_quiet_op; go_big_quiet_on)
      refine wpTO_nil ?_
      obtain ⟨gx, _⟩ : ∃ x : Nat, x = 0 := ⟨0, rfl⟩
      refine ⟨rfl, gx, g, A1, n1, c1, A2, n2, c2, A3, n3, c3, rfl, hid (Ext.put (Ext.put (Ext.put Y2 (p := ⟨g, 0, none⟩) hgs (.slice A1 n1 c1)) (p := ⟨g, 1, none⟩) hgs (.slice A2 n2 c2)) (p := ⟨g, 2, none⟩) hgs (.slice A3 n3 c3)), hid ((((BG.set 0 (.slice A1 n1 c1)).set 1 (.slice A2 n2 c2)).set 2 (.slice A3 n3 c3)).cast (by simp)), hid (((FO.putB BG 0 _).putB (BG.set 0 _) 1 _).putB ((BG.set 0 _).set 1 _) 2 _).V⟩
    · refine wpTO_do (by rfl) ?_
      intro K hK
      go_simp
      have BG := Blk.new y0 25 #[.slice none 0 0, .slice none 0 0, .slice none 0 0]
      have Y3 := Ext.new Y0 (.cells #[.slice none 0 0, .slice none 0 0, .slice none 0 0] 25)
      have hgs := (Y0).size
      obtain ⟨g, hg⟩ : ∃ g, g = (y0 : World).heap.size := ⟨_, rfl⟩
      rw [← hg] at BG hgs ⊢
      generalize (y0 : World).alloc (.cells #[.slice none 0 0, .slice none 0 0, .slice none 0 0] 25) = y3 at *
      refine hK _ _ Y3 ?_
      clear K hK hg
      refine wpTO_do (by rfl) ?_
      intro K hK
      go_simp
      refine Calls.mono (play_any F1' (l.drop jn) (slF A jn kc 4) (k - jn) (kc - jn) _ y3 (Vc.out.keep Y3) HBF1.out HLD.out ((HRF.out.keep X.out).keep Y3) HKJ.out HLB2.out) ?_
      rintro e y4 ⟨v', he, FO, hx⟩
      rw [HT2.out] at he FO
      obtain rfl := he
      obtain ⟨A1, c1, A2, c2, A3, c3, hsh, _, _, _⟩ := id FO
      obtain ⟨n1, hn1⟩ : ∃ n, n = (FA).1.length := ⟨_, rfl⟩
      obtain ⟨n2, hn2⟩ : ∃ n, n = (FA).2.1.length := ⟨_, rfl⟩
      obtain ⟨n3, hn3⟩ : ∃ n, n = (FA).2.2.length := ⟨_, rfl⟩
      rw [← hn1, ← hn2, ← hn3] at hsh
      subst hsh
      have Y4 := Ext.then Y3 hx
      replace BG := Blk.keep BG (hx)
      refine hK _ _ Y4 ?_
      clear K hK hx hn1 hn2 hn3
      repeat (refine wpTO_val (by rfl) ?_; intro K hK; go_big_quiet_op; go_big_quiet_on)
      have q0 := BG.cell 0
      have q1 := BG.cell 1
      have q2 := BG.cell 2
      have f0 := BG.frozen 0
      have f1 := BG.frozen 1
      have f2 := BG.frozen 2
      refine wpTO_do (by rfl) ?_
      intro K hK
      go_simp
      refine hK _ _ (Ext.put (Ext.put (Ext.put Y4 (p := ⟨g, 0, none⟩) hgs (.slice A1 n1 c1)) (p := ⟨g, 1, none⟩) hgs (.slice A2 n2 c2)) (p := ⟨g, 2, none⟩) hgs (.slice A3 n3 c3)) ?_
      clear K hK
      repeat (refine wpTO_val (by rfl) ?_; intro K hK; go_big_quiet_op; go_big_quiet_on)
      refine wpTO_nil ?_
      obtain ⟨gx, _⟩ : ∃ x : Nat, x = 0 := ⟨0, rfl⟩
      refine ⟨rfl, gx, g, A1, n1, c1, A2, n2, c2, A3, n3, c3, rfl, hid (Ext.put (Ext.put (Ext.put Y4 (p := ⟨g, 0, none⟩) hgs (.slice A1 n1 c1)) (p := ⟨g, 1, none⟩) hgs (.slice A2 n2 c2)) (p := ⟨g, 2, none⟩) hgs (.slice A3 n3 c3)), hid ((((BG.set 0 (.slice A1 n1 c1)).set 1 (.slice A2 n2 c2)).set 2 (.slice A3 n3 c3)).cast (by simp)), hid (((FO.putB BG 0 _).putB (BG.set 0 _) 1 _).putB ((BG.set 0 _).set 1 _) 2 _).V⟩
  rintro xd gd A1d n1d c1d A2d n2d c2d A3d n3d c3d y2' ⟨XQ, Bd, Vd⟩
  replace X := hid (X.out.then XQ.out)
  replace Va := hid (Va.out.keep XQ.out)
  replace Ba := hid (Ba.out.keep XQ.out)
  clear XQ
  clear c0 c1 c2 c0r c1r c2r
  have a0 := Ba.out.cell 0
  have a1 := Ba.out.cell 1
  have a2 := Ba.out.cell 2
  have d0 := Bd.out.cell 0
  have d1 := Bd.out.cell 1
  have d2 := Bd.out.cell 2
  go_wp2_with fail
  refine Calls.mono (sameFS_same _ _ _ _ Vd.out Va.out HPB.out) ?_
  rintro e w9 ⟨rfl, hx⟩
  replace X := hid (X.out.then hx)
  clear hx
  go_wp2
  go_returns
  exact ⟨rfl, X.out⟩
theorem fsPlays_any (f : Fs.FSy) (l : List Fs.Opn) (A : Option Addr) (k kc : Nat) (j : Int) (v : Value) (w : World) (hv : FsV w v f) (hb : Fs.FsB f) (hl : l.length = k) (hr : Rd w A (Fs.ops l)) (hkl : k ≤ 140737488355328) (hlb : ∀ o ∈ l, Fs.OpB o) (hc : k ≤ kc) :
    Calls Tryd.prog 4 #[v, .slice A k kc, .int .i64 j] w fun e w' => e = .returned (.bool true) ∧ Ext w w' := by
  by_cases h0 : (Fs.ply f l).2 = 0
  · by_cases hj : j < 0 ∨ (k : Int) < j
    · exact fsPlays_out f l A k kc j v w hv hb hl hr hkl hlb h0 hj
    · exact fsPlays_in f l A k kc j v w hv hb hl hr hkl hlb hc j.toNat (by omega) (by omega) h0
  · exact fsPlays_err f l A k kc j v w hv hb hl hr hkl hlb h0
end Go.Proofs.YtolhifnlahllnaaDoor
