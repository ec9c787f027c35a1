/- Files: Read, Play: walks (printed by gen_ftb.py). -/
import Derived.Test.YtolhifnlahllnaaDoorFta
namespace Hy.Fs
open Go
/-- ops as cells -/
def opn4 (o : Opn) : List Value := [.int .i64 o.1, .string o.2.1, .string o.2.2.1, .string o.2.2.2]
def ops (l : List Opn) : List Value := l.flatMap opn4
theorem ops_len (l : List Opn) : (ops l).length = l.length * 4 := flat_length (f := opn4) (m := 4) (fun _ => rfl) l
/-- ops of no more than memory can hold -/
def OpB (o : Opn) : Prop := o.2.1.size ≤ 140737488355328 ∧ o.2.2.1.size ≤ 140737488355328 ∧ o.2.2.2.size ≤ 140737488355328
theorem _root_.Hy.Rd.opns {w : World} {A : Option Addr} {l : List Opn} (h : Rd w A (ops l)) (k : Nat) (hk : k < l.length) :
    ∃ b o, A = some ⟨b, o, none⟩ ∧ b < w.heap.size ∧ ∀ j (hj : j < l.length), w.cell? ⟨b, o + j * 4, none⟩ = some (.int .i64 l[j].1) ∧ w.cell? ⟨b, o + j * 4 + 1, none⟩ = some (.string l[j].2.1) ∧ w.cell? ⟨b, o + j * 4 + 2, none⟩ = some (.string l[j].2.2.1) ∧ w.cell? ⟨b, o + j * 4 + 3, none⟩ = some (.string l[j].2.2.2) := by
  obtain ⟨b, o, e, hb, hc⟩ := h (by rw [ops_len]; omega)
  have H : ∀ j (hj : j < l.length) i (hi : i < 4) u, (opn4 l[j])[i]? = some u → w.cell? ⟨b, o + (j * 4 + i), none⟩ = some u := fun j hj i hi u hu => hc _ _ ((flat_get (f := opn4) (m := 4) (fun _ => rfl) l j hj i hi).trans hu)
  refine ⟨b, o, e, hb, fun j hj => ⟨?_, ?_, ?_, ?_⟩⟩
  · exact H j hj 0 (by decide) _ rfl
  · rw [Nat.add_assoc]; exact H j hj 1 (by decide) _ rfl
  · rw [Nat.add_assoc]; exact H j hj 2 (by decide) _ rfl
  · rw [Nat.add_assoc]; exact H j hj 3 (by decide) _ rfl
theorem rdf_le (f : FSy) (s : ByteArray) : (rdf f s).2 ≤ 6 := by
  have := fsck_le f
  unfold rdf
  (repeat' split) <;> simp only <;> omega
end Hy.Fs
namespace Go.Proofs.YtolhifnlahllnaaDoor
open Go.RowKit Hy
set_option maxHeartbeats 1600000 in
set_option maxRecDepth 100000 in
theorem read_any (f : Fs.FSy) (s : ByteArray) (v : Value) (w : World) (hv : FsV w v f) (hb : Fs.FsB f) :
    Calls Tryd.prog 12 #[v, .string s] w fun e w' => e = .returned (.tuple #[.string (Fs.rdf f s).1, .int .i64 ((Fs.rdf f s).2 : Nat)]) ∧ Ext w w' := by
  have HV := hid hv
  obtain ⟨NA, nc, DA, dc, SA, sc, rfl, h1, h2, h3, _, _, _⟩ := hv
  obtain ⟨n, hn⟩ : ∃ n, n = f.1.length := ⟨_, rfl⟩
  obtain ⟨m, hm⟩ : ∃ n, n = f.2.1.length := ⟨_, rfl⟩
  obtain ⟨q, hq⟩ : ∃ n, n = f.2.2.length := ⟨_, rfl⟩
  have HCK := hid (fun wx (hx : Ext w wx) => check_V f _ wx (HV.out.keep hx) hb)
  rw [← hn, ← hm, ← hq] at HV HCK ⊢
  have XN := hid (Ext.new (ext_refl w) (.cells #[.slice NA n nc, .slice DA m dc, .slice SA q sc] 25))
  have BN := hid (Blk.new w 25 #[.slice NA n nc, .slice DA m dc, .slice SA q sc])
  by_cases h0 : Fs.fsck f = 0
  · have hok := Fs.ok_iff.1 h0
    have hml := Fs.good_len hok.dir
    have HAT := hid (fun wx (hx : Ext w wx) => at_any f.2.1 DA m dc s wx hm.symm (h2.keep hx) (by have := hok.few; omega) hok.dir.2.1)
    rw [h0] at HCK
    by_cases hs : s.data.toList ∈ Fs.nms f.2.1
    · obtain ⟨hk, hke, hkn⟩ := Fs.nof_at hok.dir.2.1 hs
      obtain ⟨j, hj⟩ : ∃ j : Nat, Fs.nof f.2.1 s = (j : Int) := ⟨(Fs.nof f.2.1 s).toNat, by have := (hok.dir.1 _ (List.getElem_mem hk)).2.1; omega⟩
      have hjn : j < f.1.length := by have := (hok.dir.1 _ (List.getElem_mem hk)).2.2; omega
      have HR := hid (Fs.rdf_ok h0 j hjn hj)
      rw [decide_eq_true hs] at HAT
      obtain ⟨k, hkk⟩ : ∃ k, k = Dct.plc (Fs.nms f.2.1) s.data.toList := ⟨_, rfl⟩
      have hkm : k < m := by rw [hkk, hm]; exact hk
      obtain ⟨b2, o2, e2, l2, c2⟩ := h2.ents _ hk
      have d1 := (c2 _ hk).2
      rw [← hkn, hj] at d1
      obtain ⟨b1, o1, e1, l1, c1⟩ := h1.nodes j hjn
      have d2 := (c1 j hjn).1
      rw [← hkk] at HAT d1
      generalize (f.1[j]'hjn).1 = lv at d2 HR
      have HD1 := hid d1; have HD2 := hid d2
      have hjI : (j : Int) < (n : Int) := by omega
      have hkI : (k : Int) < (m : Int) := by omega
      have hnI : (n : Int) ≤ 24 := by have := hok.few; omega
      have hmI : (m : Int) ≤ 24 := by have := hok.few; omega
      clear h1 h2 h3 hn hm hq hb h0 hok hml hs hk hke hkn hj hjn hkk hkm l2 c2 d1 l1 c1 d2
      subst e1 e2
      go_enter Tryd.func12, Tryd.ntmps12
      go_wp2_with fail
      refine Calls.mono (HCK.out _ XN.out) ?_
      rintro e w1 ⟨rfl, hx⟩
      have X1 : Hid (Ext w w1) := hid (XN.out.then hx)
      have B1 := hid (BN.out.keep hx)
      clear hx
      have p1 := B1.out.cell 1
      go_wp2_with fail
      refine Calls.mono (HAT.out _ X1.out) ?_
      rintro e w2 ⟨rfl, hx⟩
      have X2 : Hid (Ext w w2) := hid (X1.out.then hx)
      have B2 := hid (B1.out.keep hx)
      clear hx p1
      have p0 := B2.out.cell 0
      have p1 := B2.out.cell 1
      have d1 := ext_cell X2.out HD1.out
      have d2 := ext_cell X2.out HD2.out
      go_wp2_with fail
      go_quiet (fail)
      go_wp2
      go_returns
      exact ⟨by rw [HR.out]; rfl, X2.out.draws _⟩
    · have hno := (Fs.nof_iff hok.dir).2 hs
      have HR := hid (Fs.rdf_none h0 hno)
      rw [decide_eq_false hs] at HAT
      generalize Dct.plc (Fs.nms f.2.1) s.data.toList = k at HAT
      clear h1 h2 h3 hn hm hq hb h0 hok hml hs hno
      go_enter Tryd.func12, Tryd.ntmps12
      go_wp2_with fail
      refine Calls.mono (HCK.out _ XN.out) ?_
      rintro e w1 ⟨rfl, hx⟩
      have X1 : Hid (Ext w w1) := hid (XN.out.then hx)
      have B1 := hid (BN.out.keep hx)
      clear hx
      have p1 := B1.out.cell 1
      go_wp2_with fail
      refine Calls.mono (HAT.out _ X1.out) ?_
      rintro e w2 ⟨rfl, hx⟩
      have X2 : Hid (Ext w w2) := hid (X1.out.then hx)
      clear hx p1
      go_wp2
      go_returns
      exact ⟨by rw [HR.out]; rfl, X2.out⟩
  · have HR := hid (Fs.rdf_bad (s := s) h0)
    obtain ⟨E, hE⟩ : ∃ E, E = Fs.fsck f := ⟨_, rfl⟩
    rw [← hE] at h0 HCK HR
    have e2 : ((E : Int) != 0) = true := by simp; omega
    clear h1 h2 h3 hn hm hq hb h0 hE
    go_enter Tryd.func12, Tryd.ntmps12
    go_wp2_with fail
    refine Calls.mono (HCK.out _ XN.out) ?_
    rintro e w1 ⟨rfl, hx⟩
    have X1 : Hid (Ext w w1) := hid (XN.out.then hx)
    clear hx
    go_wp2
    go_returns
    exact ⟨by rw [HR.out]; rfl, X1.out⟩
set_option maxHeartbeats 1600000 in
set_option maxRecDepth 100000 in
theorem play_bad (f : Fs.FSy) (l : List Fs.Opn) (A : Option Addr) (k kc : Nat) (v : Value) (w : World) (hv : FsV w v f) (hb : Fs.FsB f) (hl : l.length = k) (hr : Rd w A (Fs.ops l)) (hkl : k ≤ 140737488355328) (hlb : ∀ o ∈ l, Fs.OpB o) (h : Fs.fsck f ≠ 0) :
    Calls Tryd.prog 22 #[v, .slice A k kc] w fun e w' => ∃ v', e = .returned (.tuple #[v', .int .i64 ((Fs.ply f l).2 : Nat)]) ∧ FsO w' w.heap.size v' (Fs.ply f l).1 ∧ Ext w w' := by
  have HV := hid hv
  obtain ⟨NA, nc, DA, dc, SA, sc, rfl, h1, h2, h3, _, _, _⟩ := hv
  obtain ⟨n, hn⟩ : ∃ n, n = f.1.length := ⟨_, rfl⟩
  obtain ⟨m, hm⟩ : ∃ n, n = f.2.1.length := ⟨_, rfl⟩
  obtain ⟨q, hq⟩ : ∃ n, n = f.2.2.length := ⟨_, rfl⟩
  have HCK := hid (fun wx (hx : Ext w wx) => check_V f _ wx (HV.out.keep hx) hb)
  rw [← hn, ← hm, ← hq] at HV HCK ⊢
  have HRD := hid hr
  have HLL := hid hl
  have HLB := hid hlb
  have HR := hid (Fs.ply_bad (l := l) h)
  obtain ⟨E, hE⟩ : ∃ E, E = Fs.fsck f := ⟨_, rfl⟩
  rw [← hE] at h HCK HR
  have e1 : ((E : Int) == 0) = false := beq_eq_false_iff_ne.2 (by omega)
  have e2 : ((E : Int) != 0) = true := by simp; omega
  have hkI : (k : Int) ≤ 140737488355328 := by omega
  clear h1 h2 h3 hn hm hq hb hl hr hkl hlb h hE
  go_enter Tryd.func22, Tryd.ntmps22
  go_upto_region 1 with fail
  refine wp_gen (fun w' => Ext w w' ∧ Blk w' w.heap.size 25 #[.slice NA n nc, .slice DA m dc, .slice SA q sc] ∧ Blk w' (w.heap.size + 1) 25 #[.slice none 0 0, .slice none 0 0, .slice none 0 0]) ⟨((ext_refl _).new _).new _, (Blk.new _ _ _).alloc _, Blk.newAt (by simp)⟩ ?_
  rintro wz ⟨B0, B1, B3⟩
  have XZ : Hid (Ext w wz) := hid B0
  have F1 := hid B1
  have F3 := hid B3
  have p0 := B1.cell 0
  have p1 := B1.cell 1
  have p2 := B1.cell 2
  clear B0 B1 B3
  go_wp2_with fail
  refine Calls.mono (HCK.out _ XZ.out) ?_
  rintro e w1 ⟨rfl, hx⟩
  replace XZ : Hid (Ext w w1) := hid (XZ.out.then hx)
  replace F1 := hid (F1.out.keep hx)
  replace F3 := hid (F3.out.keep hx)
  clear hx p0 p1 p2
  have z0 := F3.out.cell 0
  have z1 := F3.out.cell 1
  have z2 := F3.out.cell 2
  have y0 := F3.out.frozen 0
  have y1 := F3.out.frozen 1
  have y2 := F3.out.frozen 2
  go_wp2
  have HBF := hid ((((F3.out.set 0 (.slice none 0 0)).set 1 (.slice none 0 0)).set 2 (.slice none 0 0)).cast (cs' := #[.slice none 0 0, .slice none 0 0, .slice none 0 0]) (by simp))
  have XF := hid (Ext.put (Ext.put (Ext.put XZ.out (p := ⟨w.heap.size + 1, 0, none⟩) (by simp only; omega) (.slice none 0 0)) (p := ⟨w.heap.size + 1, 1, none⟩) (by simp only; omega) (.slice none 0 0)) (p := ⟨w.heap.size + 1, 2, none⟩) (by simp only; omega) (.slice none 0 0))
  refine bodyPost_ret (results_blk2 rfl _ _ (w.heap.size + 1) 25 _ _ rfl HBF.out Tryd.underlying25 rfl (by kernel_rfl)) rfl ?_
  exact ⟨_, by rw [HR.out]; rfl, by rw [HR.out]; exact fs0_O _ _, XF.out⟩
set_option maxHeartbeats 1600000 in
set_option maxRecDepth 100000 in
theorem play_many (f : Fs.FSy) (l : List Fs.Opn) (A : Option Addr) (k kc : Nat) (v : Value) (w : World) (hv : FsV w v f) (hb : Fs.FsB f) (hl : l.length = k) (hr : Rd w A (Fs.ops l)) (hkl : k ≤ 140737488355328) (hlb : ∀ o ∈ l, Fs.OpB o) (h : Fs.fsck f = 0) (h2 : 64 < l.length) :
    Calls Tryd.prog 22 #[v, .slice A k kc] w fun e w' => ∃ v', e = .returned (.tuple #[v', .int .i64 ((Fs.ply f l).2 : Nat)]) ∧ FsO w' w.heap.size v' (Fs.ply f l).1 ∧ Ext w w' := by
  have HV := hid hv
  obtain ⟨NA, nc, DA, dc, SA, sc, rfl, h1, h2', h3, _, _, _⟩ := hv
  obtain ⟨n, hn⟩ : ∃ n, n = f.1.length := ⟨_, rfl⟩
  obtain ⟨m, hm⟩ : ∃ n, n = f.2.1.length := ⟨_, rfl⟩
  obtain ⟨q, hq⟩ : ∃ n, n = f.2.2.length := ⟨_, rfl⟩
  have HCK := hid (fun wx (hx : Ext w wx) => check_V f _ wx (HV.out.keep hx) hb)
  rw [← hn, ← hm, ← hq] at HV HCK ⊢
  have HRD := hid hr
  have HLL := hid hl
  have HLB := hid hlb
  have HR := hid (Fs.ply_many h h2)
  rw [h] at HCK
  have hk64 : (64 : Int) < (k : Int) := by omega
  have hkI : (k : Int) ≤ 140737488355328 := by omega
  clear h1 h2' h3 hn hm hq hb hl hr hkl hlb h h2
  go_enter Tryd.func22, Tryd.ntmps22
  go_upto_region 1 with fail
  refine wp_gen (fun w' => Ext w w' ∧ Blk w' w.heap.size 25 #[.slice NA n nc, .slice DA m dc, .slice SA q sc] ∧ Blk w' (w.heap.size + 1) 25 #[.slice none 0 0, .slice none 0 0, .slice none 0 0]) ⟨((ext_refl _).new _).new _, (Blk.new _ _ _).alloc _, Blk.newAt (by simp)⟩ ?_
  rintro wz ⟨B0, B1, B3⟩
  have XZ : Hid (Ext w wz) := hid B0
  have F1 := hid B1
  have F3 := hid B3
  have p0 := B1.cell 0
  have p1 := B1.cell 1
  have p2 := B1.cell 2
  clear B0 B1 B3
  go_wp2_with fail
  refine Calls.mono (HCK.out _ XZ.out) ?_
  rintro e w1 ⟨rfl, hx⟩
  replace XZ : Hid (Ext w w1) := hid (XZ.out.then hx)
  replace F1 := hid (F1.out.keep hx)
  replace F3 := hid (F3.out.keep hx)
  clear hx p0 p1 p2
  have z0 := F3.out.cell 0
  have z1 := F3.out.cell 1
  have z2 := F3.out.cell 2
  have y0 := F3.out.frozen 0
  have y1 := F3.out.frozen 1
  have y2 := F3.out.frozen 2
  go_wp2
  have HBF := hid ((((F3.out.set 0 (.slice none 0 0)).set 1 (.slice none 0 0)).set 2 (.slice none 0 0)).cast (cs' := #[.slice none 0 0, .slice none 0 0, .slice none 0 0]) (by simp))
  have XF := hid (Ext.put (Ext.put (Ext.put XZ.out (p := ⟨w.heap.size + 1, 0, none⟩) (by simp only; omega) (.slice none 0 0)) (p := ⟨w.heap.size + 1, 1, none⟩) (by simp only; omega) (.slice none 0 0)) (p := ⟨w.heap.size + 1, 2, none⟩) (by simp only; omega) (.slice none 0 0))
  refine bodyPost_ret (results_blk2 rfl _ _ (w.heap.size + 1) 25 _ _ rfl HBF.out Tryd.underlying25 rfl (by kernel_rfl)) rfl ?_
  exact ⟨_, by rw [HR.out]; rfl, by rw [HR.out]; exact fs0_O _ _, XF.out⟩
end Go.Proofs.YtolhifnlahllnaaDoor
