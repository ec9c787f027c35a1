/- Files: Do: walk (printed by gen_fta.py). -/
import Derived.Test.YtolhifnlahllnaaDoorFsz
import Derived.Test.YtolhifnlahllnaaDoorFsg
namespace Hy.Fs
open Go
/-- a file system of no more than memory can hold -/
structure FsB (f : FSy) : Prop where
  n : f.1.length ≤ 140737488355328
  m : f.2.1.length ≤ 140737488355328
  q : f.2.2.length ≤ 140737488355328
  d : ∀ x ∈ f.2.1, x.1.size ≤ 140737488355328
  s : ∀ x ∈ f.2.2, x.1.size ≤ 140737488355328
  di : ∀ x ∈ f.2.1, -9223372036854775808 ≤ x.2 ∧ x.2 ≤ 9223372036854775807
  si : ∀ x ∈ f.2.2, -9223372036854775808 ≤ x.2 ∧ x.2 ≤ 9223372036854775807
theorem nm_size {s : ByteArray} (h : Nm.nm s.data.toList = true) : s.size ≤ 140737488355328 := by
  have h1 := (Nm.nm_le h).2
  rw [Array.length_toList] at h1
  have h2 : s.size = s.data.size := rfl
  omega
theorem Ok.b {f : FSy} (h : Ok f) : FsB f := by
  have h1 := h.few
  have h2 := good_len h.dir
  have h3 := good_len h.syn
  exact ⟨by omega, by omega, by omega, fun x hx => nm_size (h.dir.1 x hx).1, fun x hx => nm_size (h.syn.1 x hx).1, fun x hx => by have := h.dir.1 x hx; omega, fun x hx => by have := h.syn.1 x hx; omega⟩
theorem fs0_b : FsB fs0 := ⟨by simp, by simp, by simp, by simp, by simp, by simp, by simp⟩
theorem don_b (f : FSy) (o : Opn) : FsB (don f o).1 := by
  by_cases h0 : (don f o).2 = 0
  · exact (don_ok h0).2.2.2.b
  · by_cases h1 : fsck f = 0
    · by_cases h2 : opck o = 0
      · rw [don_raw h1 h2, raw_dob (ok_iff.1 h1) h2] at h0 ⊢
        by_cases h3 : (dob f o).2 ≠ 0
        · rw [if_pos h3]; exact fs0_b
        · rw [if_neg h3] at h0; exact absurd rfl h0
      · rw [don_form h1 h2]; exact fs0_b
    · rw [don_bad h1]; exact fs0_b
theorem dob_good {f : FSy} (h : Ok f) {o : Opn} (ho : opck o = 0) (h0 : (dob f o).2 = 0) : (dob f o).1.1.length ≤ 24 ∧ Good (dob f o).1.1.length (dob f o).1.2.1 ∧ Good (dob f o).1.1.length (dob f o).1.2.2 := by
  obtain ⟨k1, k2, k3, k4, k5⟩ := opck_zero ho
  unfold dob at h0 ⊢
  by_cases h1 : o.1 = 1
  · rw [if_pos h1] at h0 ⊢
    have hw := (wrt_ok h (k3 (by omega)) k5 h0).1
    exact ⟨hw.few, hw.dir, hw.syn⟩
  rw [if_neg h1] at h0 ⊢
  by_cases h5 : o.1 = 5
  · rw [if_pos h5]; exact ⟨h.few, h.dir, h.dir⟩
  rw [if_neg h5] at h0 ⊢
  by_cases hn : nof f.2.1 o.2.1 < 0
  · rw [if_pos hn] at h0; simp at h0
  rw [if_neg hn]
  have hr := nof_rng (dir_iff.2 h.dir) o.2.1
  by_cases h2 : o.1 = 2
  · rw [if_pos h2]
    simp only [synL_len]
    exact ⟨h.few, h.dir, h.syn⟩
  rw [if_neg h2]
  by_cases h3 : o.1 = 3
  · rw [if_pos h3]
    exact ⟨h.few, wth_good (wout_good h.dir _) (k4 h3) (by simp only; omega) (by simp only; omega) (nof_notin h.dir hn), h.syn⟩
  rw [if_neg h3]
  exact ⟨h.few, wout_good h.dir _, h.syn⟩
end Hy.Fs
namespace Go.Proofs.YtolhifnlahllnaaDoor
open Go.RowKit Hy
theorem fs0_V (w : World) : FsV w (.agg #[.slice none 0 0, .slice none 0 0, .slice none 0 0]) Fs.fs0 :=
  ⟨none, 0, none, 0, none, 0, rfl, fun h => by simp [nds] at h, fun h => by simp [ens] at h, fun h => by simp [ens] at h, fun _ => rfl, fun _ => rfl, fun _ => rfl⟩
theorem fs0_O (w : World) (base : Nat) : FsO w base (.agg #[.slice none 0 0, .slice none 0 0, .slice none 0 0]) Fs.fs0 :=
  ⟨none, 0, none, 0, none, 0, rfl, World.ownsRow_nil _ _ _ _, World.ownsRow_nil _ _ _ _, World.ownsRow_nil _ _ _ _⟩
theorem check_V (f : Fs.FSy) (v : Value) (w : World) (h : FsV w v f) (hb : Fs.FsB f) : Calls Tryd.prog 19 #[v] w fun e w' => e = .returned (.int .i64 (Fs.fsck f : Nat)) ∧ Ext w w' := by
  obtain ⟨NA, nc, DA, dc, SA, sc, rfl, h1, h2, h3, _⟩ := h
  exact check_any f NA DA SA _ nc _ dc _ sc w rfl h1 rfl h2 rfl h3 hb.n hb.m hb.q hb.d hb.s hb.di hb.si
theorem own_V (f : Fs.FSy) (v : Value) (w : World) (h : FsV w v f) (hb : Fs.Ok f) : Calls Tryd.prog 38 #[v] w fun e w' => ∃ g, e = .returned (.pointer (some ⟨g, 0, none⟩)) ∧ Dsk w' w.heap.size g f ∧ Ext w w' := by
  obtain ⟨NA, nc, DA, dc, SA, sc, rfl, h1, h2, h3, z1, z2, z3⟩ := h
  have k1 := hb.few
  have k2 := Fs.good_len hb.dir
  have k3 := Fs.good_len hb.syn
  exact own_any f NA DA SA _ nc _ dc _ sc w rfl h1 rfl h2 rfl h3 z1 z2 z3 (by omega) (by omega) (by omega)
/-- an op is done, ahead of the sweep -/
theorem do_any (f : Fs.FSy) (o : Fs.Opn) (base g : Nat) (w : World) (hdk : Dsk w base g f) (hbw : base ≤ w.heap.size) (hok : Fs.Ok f) (ho : Fs.opck o = 0) :
    Calls Tryd.prog 39 #[.pointer (some ⟨g, 0, none⟩), Fs.opV o] w fun e w' => e = .returned (.int .i64 ((Fs.dob f o).2 : Nat)) ∧ ((Fs.dob f o).2 = 0 → Dsk w' base g (Fs.dob f o).1) ∧ Below base w w' := by
  obtain ⟨k1, k2, _, _, _⟩ := Fs.opck_zero ho
  obtain ⟨kk, nn, tt, xx⟩ := o
  simp only at k1 k2
  have h24 := hok.few
  have hgd := hok.dir
  unfold Fs.dob
  simp only
  by_cases h1 : kk = 1
  · subst h1
    rw [if_pos rfl]
    exact do_k1 f nn tt xx base g w hdk hbw h24 hgd
  rw [if_neg h1]
  by_cases h5 : kk = 5
  · subst h5
    rw [if_pos rfl]
    refine (do_k5 f nn tt xx base g w hdk hbw h24 hgd).mono ?_
    rintro e w' ⟨rfl, a, b⟩
    exact ⟨rfl, fun _ => a, b⟩
  rw [if_neg h5]
  by_cases hn : Fs.nof f.2.1 nn < 0
  · rw [if_pos hn]
    have hs := (Fs.nof_iff hgd).1 hn
    have hk : kk = 2 ∨ kk = 3 ∨ kk = 4 := by omega
    rcases hk with rfl | rfl | rfl
    · refine (do_no2 f nn tt xx base g w hdk hbw h24 hgd hs).mono ?_
      rintro e w' ⟨rfl, b⟩
      exact ⟨rfl, fun h => absurd h (by decide), b⟩
    · refine (do_no3 f nn tt xx base g w hdk hbw h24 hgd hs).mono ?_
      rintro e w' ⟨rfl, b⟩
      exact ⟨rfl, fun h => absurd h (by decide), b⟩
    · refine (do_no4 f nn tt xx base g w hdk hbw h24 hgd hs).mono ?_
      rintro e w' ⟨rfl, b⟩
      exact ⟨rfl, fun h => absurd h (by decide), b⟩
  rw [if_neg hn]
  have hs : nn.data.toList ∈ Fs.nms f.2.1 := by
    by_cases h : nn.data.toList ∈ Fs.nms f.2.1
    · exact h
    · exact absurd ((Fs.nof_iff hgd).2 h) hn
  by_cases h2 : kk = 2
  · subst h2
    rw [if_pos rfl]
    refine (do_k2 f nn tt xx base g w hdk hbw h24 hgd hs).mono ?_
    rintro e w' ⟨rfl, a, b⟩
    exact ⟨rfl, fun _ => a, b⟩
  rw [if_neg h2]
  by_cases h3 : kk = 3
  · subst h3
    rw [if_pos rfl]
    refine (do_k3 f nn tt xx base g w hdk hbw h24 hgd hs).mono ?_
    rintro e w' ⟨rfl, a, b⟩
    exact ⟨rfl, fun _ => a, b⟩
  rw [if_neg h3]
  obtain rfl : kk = 4 := by omega
  refine (do_k4 f nn tt xx base g w hdk hbw h24 hgd hs).mono ?_
  rintro e w' ⟨rfl, a, b⟩
  exact ⟨rfl, fun _ => a, b⟩
theorem swept_V (f : Fs.FSy) (base g : Nat) (w : World) (hdk : Dsk w base g f) (hbw : base ≤ w.heap.size) (h24 : f.1.length ≤ 24) (hg : Fs.Good f.1.length f.2.1) (hs : Fs.Good f.1.length f.2.2) :
    Calls Tryd.prog 40 #[.pointer (some ⟨g, 0, none⟩)] w fun e w' => ∃ v, e = .returned v ∧ FsO w' base v (Fs.swp f) ∧ Below base w w' := by
  have k2 := Fs.good_len hg
  have k3 := Fs.good_len hs
  exact swept_any f base g w hdk hbw h24 (by omega) (by omega) (fun x hx => (hg.1 x hx).2) (fun x hx => (hs.1 x hx).2)
set_option maxHeartbeats 1600000 in
set_option maxRecDepth 100000 in
theorem done_bad (f : Fs.FSy) (o : Fs.Opn) (v : Value) (w : World) (hv : FsV w v f) (hb : Fs.FsB f) (h : Fs.fsck f ≠ 0) :
    Calls Tryd.prog 13 #[v, Fs.opV o] w fun e w' => ∃ v', e = .returned (.tuple #[v', .int .i64 ((Fs.don f o).2 : Nat)]) ∧ FsO w' w.heap.size v' (Fs.don f o).1 ∧ Ext w w' := by
  obtain ⟨kk, nn, tt, xx⟩ := o
  obtain ⟨NA, nc, DA, dc, SA, sc, rfl, _, _, _, _, _, _⟩ := id hv
  obtain ⟨n, hn⟩ : ∃ n, n = f.1.length := ⟨_, rfl⟩
  obtain ⟨m, hm⟩ : ∃ n, n = f.2.1.length := ⟨_, rfl⟩
  obtain ⟨q, hq⟩ : ∃ n, n = f.2.2.length := ⟨_, rfl⟩
  rw [← hn, ← hm, ← hq] at hv ⊢
  have HV := hid hv
  show Calls _ _ #[_, .agg #[.int .i64 kk, .string nn, .string tt, .string xx]] w _
  have HCK := hid (fun wx (hx : Ext w wx) => check_V f _ wx (hv.keep hx) hb)
  have HR := hid (Fs.don_bad (o := (kk, nn, tt, xx)) h)
  obtain ⟨E, hE⟩ : ∃ E, E = Fs.fsck f := ⟨_, rfl⟩
  rw [← hE] at h HCK HR
  have e1 : ((E : Int) == 0) = false := beq_eq_false_iff_ne.2 (by omega)
  have e2 : ((E : Int) != 0) = true := by simp; omega
  clear hn hm hq hv hb h hE
  go_enter Tryd.func13, Tryd.ntmps13
  go_upto_region 1 with fail
  refine wp_gen (fun w' => Ext w w' ∧ Blk w' w.heap.size 25 #[.slice NA n nc, .slice DA m dc, .slice SA q sc] ∧ Blk w' (w.heap.size + 1) 27 #[.int .i64 kk, .string nn, .string tt, .string xx] ∧ Blk w' (w.heap.size + 1 + 1) 25 #[.slice none 0 0, .slice none 0 0, .slice none 0 0]) ⟨(((ext_refl _).new _).new _).new _, ((Blk.new _ _ _).alloc _).alloc _, (Blk.newAt (by simp)).alloc _, Blk.newAt (by simp)⟩ ?_
  rintro wz ⟨B0, B1, B2, B3⟩
  have XZ : Hid (Ext w wz) := hid B0
  have F1 := hid B1
  have F2 := hid B2
  have F3 := hid B3
  have p0 := B1.cell 0
  have p1 := B1.cell 1
  have p2 := B1.cell 2
  clear B0 B1 B2 B3
  go_wp2_with fail
  refine Calls.mono (HCK.out _ XZ.out) ?_
  rintro e w1 ⟨rfl, hx⟩
  replace XZ : Hid (Ext w w1) := hid (XZ.out.then hx)
  replace F1 := hid (F1.out.keep hx)
  replace F2 := hid (F2.out.keep hx)
  replace F3 := hid (F3.out.keep hx)
  clear hx p0 p1 p2
  have z0 := F3.out.cell 0
  have z1 := F3.out.cell 1
  have z2 := F3.out.cell 2
  have y0 := F3.out.frozen 0
  have y1 := F3.out.frozen 1
  have y2 := F3.out.frozen 2
  go_wp2
  have HBF := hid ((((F3.out.set 0 (.slice none 0 0)).set 1 (.slice none 0 0)).set 2 (.slice none 0 0)).cast (cs' := #[.slice none 0 0, .slice none 0 0, .slice none 0 0]) (by simp))
  have XF := hid (Ext.put (Ext.put (Ext.put XZ.out (p := ⟨w.heap.size + 1 + 1, 0, none⟩) (by simp only; omega) (.slice none 0 0)) (p := ⟨w.heap.size + 1 + 1, 1, none⟩) (by simp only; omega) (.slice none 0 0)) (p := ⟨w.heap.size + 1 + 1, 2, none⟩) (by simp only; omega) (.slice none 0 0))
  refine bodyPost_ret (results_blk2 rfl _ _ (w.heap.size + 1 + 1) 25 _ _ rfl HBF.out Tryd.underlying25 rfl (by kernel_rfl)) rfl ?_
  exact ⟨_, by rw [HR.out]; rfl, by rw [HR.out]; exact fs0_O _ _, XF.out⟩
set_option maxHeartbeats 1600000 in
set_option maxRecDepth 100000 in
theorem done_form (f : Fs.FSy) (o : Fs.Opn) (v : Value) (w : World) (hv : FsV w v f) (hb : Fs.FsB f) (h : Fs.fsck f = 0) (hs : o.2.1.size ≤ 140737488355328) (ht : o.2.2.1.size ≤ 140737488355328) (hx : o.2.2.2.size ≤ 140737488355328) (h2 : Fs.opck o ≠ 0) :
    Calls Tryd.prog 13 #[v, Fs.opV o] w fun e w' => ∃ v', e = .returned (.tuple #[v', .int .i64 ((Fs.don f o).2 : Nat)]) ∧ FsO w' w.heap.size v' (Fs.don f o).1 ∧ Ext w w' := by
  obtain ⟨kk, nn, tt, xx⟩ := o
  obtain ⟨NA, nc, DA, dc, SA, sc, rfl, _, _, _, _, _, _⟩ := id hv
  obtain ⟨n, hn⟩ : ∃ n, n = f.1.length := ⟨_, rfl⟩
  obtain ⟨m, hm⟩ : ∃ n, n = f.2.1.length := ⟨_, rfl⟩
  obtain ⟨q, hq⟩ : ∃ n, n = f.2.2.length := ⟨_, rfl⟩
  rw [← hn, ← hm, ← hq] at hv ⊢
  have HV := hid hv
  show Calls _ _ #[_, .agg #[.int .i64 kk, .string nn, .string tt, .string xx]] w _
  have HCK := hid (fun wx (hx : Ext w wx) => check_V f _ wx (hv.keep hx) hb)
  have HR := hid (Fs.don_form h h2)
  have HFM := hid (fun wx => form_any kk nn tt xx wx hs ht hx)
  obtain ⟨E, hE⟩ : ∃ E, E = Fs.opck (kk, nn, tt, xx) := ⟨_, rfl⟩
  rw [← hE] at h2 HFM HR
  rw [h] at HCK
  have e1 : ((E : Int) == 0) = false := beq_eq_false_iff_ne.2 (by omega)
  have e2 : ((E : Int) != 0) = true := by simp; omega
  clear hn hm hq hv hb h hs ht hx h2 hE
  go_enter Tryd.func13, Tryd.ntmps13
  go_upto_region 1 with fail
  refine wp_gen (fun w' => Ext w w' ∧ Blk w' w.heap.size 25 #[.slice NA n nc, .slice DA m dc, .slice SA q sc] ∧ Blk w' (w.heap.size + 1) 27 #[.int .i64 kk, .string nn, .string tt, .string xx] ∧ Blk w' (w.heap.size + 1 + 1) 25 #[.slice none 0 0, .slice none 0 0, .slice none 0 0]) ⟨(((ext_refl _).new _).new _).new _, ((Blk.new _ _ _).alloc _).alloc _, (Blk.newAt (by simp)).alloc _, Blk.newAt (by simp)⟩ ?_
  rintro wz ⟨B0, B1, B2, B3⟩
  have XZ : Hid (Ext w wz) := hid B0
  have F1 := hid B1
  have F2 := hid B2
  have F3 := hid B3
  have p0 := B1.cell 0
  have p1 := B1.cell 1
  have p2 := B1.cell 2
  clear B0 B1 B2 B3
  go_wp2_with fail
  refine Calls.mono (HCK.out _ XZ.out) ?_
  rintro e w1 ⟨rfl, hx⟩
  replace XZ : Hid (Ext w w1) := hid (XZ.out.then hx)
  replace F1 := hid (F1.out.keep hx)
  replace F2 := hid (F2.out.keep hx)
  replace F3 := hid (F3.out.keep hx)
  clear hx p0 p1 p2
  have o0 := F2.out.cell 0
  have o1 := F2.out.cell 1
  have o2 := F2.out.cell 2
  have o3 := F2.out.cell 3
  go_wp2_with fail
  refine Calls.mono (HFM.out _) ?_
  rintro e w2 ⟨rfl, hx⟩
  replace XZ : Hid (Ext w w2) := hid (XZ.out.then hx)
  replace F1 := hid (F1.out.keep hx)
  replace F2 := hid (F2.out.keep hx)
  replace F3 := hid (F3.out.keep hx)
  clear hx o0 o1 o2 o3
  have z0 := F3.out.cell 0
  have z1 := F3.out.cell 1
  have z2 := F3.out.cell 2
  have y0 := F3.out.frozen 0
  have y1 := F3.out.frozen 1
  have y2 := F3.out.frozen 2
  go_wp2
  have HBF := hid ((((F3.out.set 0 (.slice none 0 0)).set 1 (.slice none 0 0)).set 2 (.slice none 0 0)).cast (cs' := #[.slice none 0 0, .slice none 0 0, .slice none 0 0]) (by simp))
  have XF := hid (Ext.put (Ext.put (Ext.put XZ.out (p := ⟨w.heap.size + 1 + 1, 0, none⟩) (by simp only; omega) (.slice none 0 0)) (p := ⟨w.heap.size + 1 + 1, 1, none⟩) (by simp only; omega) (.slice none 0 0)) (p := ⟨w.heap.size + 1 + 1, 2, none⟩) (by simp only; omega) (.slice none 0 0))
  refine bodyPost_ret (results_blk2 rfl _ _ (w.heap.size + 1 + 1) 25 _ _ rfl HBF.out Tryd.underlying25 rfl (by kernel_rfl)) rfl ?_
  exact ⟨_, by rw [HR.out]; rfl, by rw [HR.out]; exact fs0_O _ _, XF.out⟩
set_option maxHeartbeats 1600000 in
set_option maxRecDepth 100000 in
theorem done_err (f : Fs.FSy) (o : Fs.Opn) (v : Value) (w : World) (hv : FsV w v f) (hb : Fs.FsB f) (h : Fs.fsck f = 0) (hs : o.2.1.size ≤ 140737488355328) (ht : o.2.2.1.size ≤ 140737488355328) (hx : o.2.2.2.size ≤ 140737488355328) (h2 : Fs.opck o = 0) (h3 : (Fs.dob f o).2 ≠ 0) :
    Calls Tryd.prog 13 #[v, Fs.opV o] w fun e w' => ∃ v', e = .returned (.tuple #[v', .int .i64 ((Fs.don f o).2 : Nat)]) ∧ FsO w' w.heap.size v' (Fs.don f o).1 ∧ Ext w w' := by
  obtain ⟨kk, nn, tt, xx⟩ := o
  obtain ⟨NA, nc, DA, dc, SA, sc, rfl, _, _, _, _, _, _⟩ := id hv
  obtain ⟨n, hn⟩ : ∃ n, n = f.1.length := ⟨_, rfl⟩
  obtain ⟨m, hm⟩ : ∃ n, n = f.2.1.length := ⟨_, rfl⟩
  obtain ⟨q, hq⟩ : ∃ n, n = f.2.2.length := ⟨_, rfl⟩
  rw [← hn, ← hm, ← hq] at hv ⊢
  have HV := hid hv
  show Calls _ _ #[_, .agg #[.int .i64 kk, .string nn, .string tt, .string xx]] w _
  have HCK := hid (fun wx (hx : Ext w wx) => check_V f _ wx (hv.keep hx) hb)
  have HOK := hid (Fs.ok_iff.1 h)
  have HOP := hid h2
  have HRD := hid ((Fs.don_raw h h2).trans (Fs.raw_dob HOK.out h2))
  have HFM := hid (fun wx => form_any kk nn tt xx wx hs ht hx)
  rw [h2] at HFM
  rw [h] at HCK
  have HR := hid (show Fs.don f (kk, nn, tt, xx) = (Fs.fs0, (Fs.dob f (kk, nn, tt, xx)).2) by rw [HRD.out, if_pos h3])
  obtain ⟨E, hE⟩ : ∃ E, E = (Fs.dob f (kk, nn, tt, xx)).2 := ⟨_, rfl⟩
  have HE := hid hE
  rw [← hE] at h3 HR
  have e2 : ((E : Int) != 0) = true := by simp; omega
  clear hn hm hq hv hb h hs ht hx h2 h3 hE
  go_enter Tryd.func13, Tryd.ntmps13
  go_upto_region 1 with fail
  refine wp_gen (fun w' => Ext w w' ∧ Blk w' w.heap.size 25 #[.slice NA n nc, .slice DA m dc, .slice SA q sc] ∧ Blk w' (w.heap.size + 1) 27 #[.int .i64 kk, .string nn, .string tt, .string xx] ∧ Blk w' (w.heap.size + 1 + 1) 25 #[.slice none 0 0, .slice none 0 0, .slice none 0 0]) ⟨(((ext_refl _).new _).new _).new _, ((Blk.new _ _ _).alloc _).alloc _, (Blk.newAt (by simp)).alloc _, Blk.newAt (by simp)⟩ ?_
  rintro wz ⟨B0, B1, B2, B3⟩
  have XZ : Hid (Ext w wz) := hid B0
  have F1 := hid B1
  have F2 := hid B2
  have F3 := hid B3
  have p0 := B1.cell 0
  have p1 := B1.cell 1
  have p2 := B1.cell 2
  clear B0 B1 B2 B3
  go_wp2_with fail
  refine Calls.mono (HCK.out _ XZ.out) ?_
  rintro e w1 ⟨rfl, hx⟩
  replace XZ : Hid (Ext w w1) := hid (XZ.out.then hx)
  replace F1 := hid (F1.out.keep hx)
  replace F2 := hid (F2.out.keep hx)
  replace F3 := hid (F3.out.keep hx)
  clear hx p0 p1 p2
  have o0 := F2.out.cell 0
  have o1 := F2.out.cell 1
  have o2 := F2.out.cell 2
  have o3 := F2.out.cell 3
  go_wp2_with fail
  refine Calls.mono (HFM.out _) ?_
  rintro e w2 ⟨rfl, hx⟩
  replace XZ : Hid (Ext w w2) := hid (XZ.out.then hx)
  replace F1 := hid (F1.out.keep hx)
  replace F2 := hid (F2.out.keep hx)
  replace F3 := hid (F3.out.keep hx)
  clear hx o0 o1 o2 o3
  have p0 := F1.out.cell 0
  have p1 := F1.out.cell 1
  have p2 := F1.out.cell 2
  go_wp2_with fail
  refine Calls.mono (own_V f _ _ (HV.out.keep XZ.out) HOK.out) ?_
  rintro e w3 ⟨g, rfl, hdk, hx⟩
  have DK := hid hdk
  have X23 := hid hx
  have H2 := hid (show w2.heap.size ≤ w3.heap.size from hx.size)
  replace F2 := hid (F2.out.keep hx)
  have o0 := F2.out.cell 0
  have o1 := F2.out.cell 1
  have o2 := F2.out.cell 2
  have o3 := F2.out.cell 3
  clear hx hdk p0 p1 p2
  go_wp2_with fail
  refine Calls.mono (do_any f (kk, nn, tt, xx) w2.heap.size g w3 DK.out H2.out HOK.out HOP.out) ?_
  rw [← HE.out]
  rintro e w4 ⟨rfl, hd4, hx⟩
  have DK4 := hid hd4
  have X24 : Hid (Ext w2 w4) := hid (Below.trans X23.out hx)
  have H4 := hid (show w2.heap.size ≤ w4.heap.size from X24.out.size)
  clear hx hd4 o0 o1 o2 o3
  replace XZ : Hid (Ext w w4) := hid (XZ.out.then X24.out)
  replace F3 := hid (F3.out.keep X24.out)
  have z0 := F3.out.cell 0
  have z1 := F3.out.cell 1
  have z2 := F3.out.cell 2
  have y0 := F3.out.frozen 0
  have y1 := F3.out.frozen 1
  have y2 := F3.out.frozen 2
  go_wp2
  have HBF := hid ((((F3.out.set 0 (.slice none 0 0)).set 1 (.slice none 0 0)).set 2 (.slice none 0 0)).cast (cs' := #[.slice none 0 0, .slice none 0 0, .slice none 0 0]) (by simp))
  have XF := hid (Ext.put (Ext.put (Ext.put XZ.out (p := ⟨w.heap.size + 1 + 1, 0, none⟩) (by simp only; omega) (.slice none 0 0)) (p := ⟨w.heap.size + 1 + 1, 1, none⟩) (by simp only; omega) (.slice none 0 0)) (p := ⟨w.heap.size + 1 + 1, 2, none⟩) (by simp only; omega) (.slice none 0 0))
  refine bodyPost_ret (results_blk2 rfl _ _ (w.heap.size + 1 + 1) 25 _ _ rfl HBF.out Tryd.underlying25 rfl (by kernel_rfl)) rfl ?_
  exact ⟨_, by rw [HR.out]; rfl, by rw [HR.out]; exact fs0_O _ _, XF.out⟩
set_option maxHeartbeats 1600000 in
set_option maxRecDepth 100000 in
theorem done_good (f : Fs.FSy) (o : Fs.Opn) (v : Value) (w : World) (hv : FsV w v f) (hb : Fs.FsB f) (h : Fs.fsck f = 0) (hs : o.2.1.size ≤ 140737488355328) (ht : o.2.2.1.size ≤ 140737488355328) (hx : o.2.2.2.size ≤ 140737488355328) (h2 : Fs.opck o = 0) (h3 : (Fs.dob f o).2 = 0) (hl : (Fs.dob f o).1.1.length ≤ 24) (hg1 : Fs.Good (Fs.dob f o).1.1.length (Fs.dob f o).1.2.1) (hg2 : Fs.Good (Fs.dob f o).1.1.length (Fs.dob f o).1.2.2) :
    Calls Tryd.prog 13 #[v, Fs.opV o] w fun e w' => ∃ v', e = .returned (.tuple #[v', .int .i64 ((Fs.don f o).2 : Nat)]) ∧ FsO w' w.heap.size v' (Fs.don f o).1 ∧ Ext w w' := by
  obtain ⟨kk, nn, tt, xx⟩ := o
  obtain ⟨NA, nc, DA, dc, SA, sc, rfl, _, _, _, _, _, _⟩ := id hv
  obtain ⟨n, hn⟩ : ∃ n, n = f.1.length := ⟨_, rfl⟩
  obtain ⟨m, hm⟩ : ∃ n, n = f.2.1.length := ⟨_, rfl⟩
  obtain ⟨q, hq⟩ : ∃ n, n = f.2.2.length := ⟨_, rfl⟩
  rw [← hn, ← hm, ← hq] at hv ⊢
  have HV := hid hv
  show Calls _ _ #[_, .agg #[.int .i64 kk, .string nn, .string tt, .string xx]] w _
  have HCK := hid (fun wx (hx : Ext w wx) => check_V f _ wx (hv.keep hx) hb)
  have HOK := hid (Fs.ok_iff.1 h)
  have HOP := hid h2
  have HRD := hid ((Fs.don_raw h h2).trans (Fs.raw_dob HOK.out h2))
  have HFM := hid (fun wx => form_any kk nn tt xx wx hs ht hx)
  rw [h2] at HFM
  rw [h] at HCK
  have HD0 := hid h3
  have HR := hid (show Fs.don f (kk, nn, tt, xx) = (Fs.swp (Fs.dob f (kk, nn, tt, xx)).1, 0) by rw [HRD.out, if_neg (by omega)])
  have HL24 := hid hl
  have HGD := hid hg1
  have HGS := hid hg2
  clear hn hm hq hv hb h hs ht hx h2 h3 hl hg1 hg2
  go_enter Tryd.func13, Tryd.ntmps13
  go_upto_region 1 with fail
  refine wp_gen (fun w' => Ext w w' ∧ Blk w' w.heap.size 25 #[.slice NA n nc, .slice DA m dc, .slice SA q sc] ∧ Blk w' (w.heap.size + 1) 27 #[.int .i64 kk, .string nn, .string tt, .string xx] ∧ Blk w' (w.heap.size + 1 + 1) 25 #[.slice none 0 0, .slice none 0 0, .slice none 0 0]) ⟨(((ext_refl _).new _).new _).new _, ((Blk.new _ _ _).alloc _).alloc _, (Blk.newAt (by simp)).alloc _, Blk.newAt (by simp)⟩ ?_
  rintro wz ⟨B0, B1, B2, B3⟩
  have XZ : Hid (Ext w wz) := hid B0
  have F1 := hid B1
  have F2 := hid B2
  have F3 := hid B3
  have p0 := B1.cell 0
  have p1 := B1.cell 1
  have p2 := B1.cell 2
  clear B0 B1 B2 B3
  go_wp2_with fail
  refine Calls.mono (HCK.out _ XZ.out) ?_
  rintro e w1 ⟨rfl, hx⟩
  replace XZ : Hid (Ext w w1) := hid (XZ.out.then hx)
  replace F1 := hid (F1.out.keep hx)
  replace F2 := hid (F2.out.keep hx)
  replace F3 := hid (F3.out.keep hx)
  clear hx p0 p1 p2
  have o0 := F2.out.cell 0
  have o1 := F2.out.cell 1
  have o2 := F2.out.cell 2
  have o3 := F2.out.cell 3
  go_wp2_with fail
  refine Calls.mono (HFM.out _) ?_
  rintro e w2 ⟨rfl, hx⟩
  replace XZ : Hid (Ext w w2) := hid (XZ.out.then hx)
  replace F1 := hid (F1.out.keep hx)
  replace F2 := hid (F2.out.keep hx)
  replace F3 := hid (F3.out.keep hx)
  clear hx o0 o1 o2 o3
  have p0 := F1.out.cell 0
  have p1 := F1.out.cell 1
  have p2 := F1.out.cell 2
  go_wp2_with fail
  refine Calls.mono (own_V f _ _ (HV.out.keep XZ.out) HOK.out) ?_
  rintro e w3 ⟨g, rfl, hdk, hx⟩
  have DK := hid hdk
  have X23 := hid hx
  have H2 := hid (show w2.heap.size ≤ w3.heap.size from hx.size)
  replace F2 := hid (F2.out.keep hx)
  have o0 := F2.out.cell 0
  have o1 := F2.out.cell 1
  have o2 := F2.out.cell 2
  have o3 := F2.out.cell 3
  clear hx hdk p0 p1 p2
  go_wp2_with fail
  refine Calls.mono (do_any f (kk, nn, tt, xx) w2.heap.size g w3 DK.out H2.out HOK.out HOP.out) ?_
  rw [HD0.out]
  rintro e w4 ⟨rfl, hd4, hx⟩
  have DK4 := hid (fun (_ : (Fs.dob f (kk, nn, tt, xx)).2 = 0) => hd4 rfl)
  have X24 : Hid (Ext w2 w4) := hid (Below.trans X23.out hx)
  have H4 := hid (show w2.heap.size ≤ w4.heap.size from X24.out.size)
  clear hx hd4 o0 o1 o2 o3
  have DK5 := hid (DK4.out HD0.out)
  go_wp2_with fail
  refine Calls.mono (swept_V (Fs.dob f (kk, nn, tt, xx)).1 w2.heap.size g w4 DK5.out H4.out HL24.out HGD.out HGS.out) ?_
  rintro e w5 ⟨v, rfl, hv, hx⟩
  have FO := hid hv
  obtain ⟨NB, nb, DB, db, SB, sb, rfl, _, _, _⟩ := hv
  have X25 : Hid (Ext w2 w5) := hid (Below.trans X24.out hx)
  have F3' := hid (F3.out.keep X25.out)
  have XW : Hid (Ext w w5) := hid (XZ.out.then X25.out)
  generalize (Fs.swp (Fs.dob f (kk, nn, tt, xx)).1) = S at *
  obtain ⟨a, ha⟩ : ∃ n, n = S.1.length := ⟨_, rfl⟩
  obtain ⟨b, hb⟩ : ∃ n, n = S.2.1.length := ⟨_, rfl⟩
  obtain ⟨c, hc⟩ : ∃ n, n = S.2.2.length := ⟨_, rfl⟩
  rw [← ha, ← hb, ← hc] at FO
  rw [← ha, ← hb, ← hc]
  have z0 := F3'.out.cell 0
  have z1 := F3'.out.cell 1
  have z2 := F3'.out.cell 2
  have y0 := F3'.out.frozen 0
  have y1 := F3'.out.frozen 1
  have y2 := F3'.out.frozen 2
  clear hx ha hb hc
  go_wp2
  have HSZ := hid (show w.heap.size + 1 + 1 < w2.heap.size from F3.out.lt)
  have HBF := hid ((((F3'.out.set 0 (.slice NB a nb)).set 1 (.slice DB b db)).set 2 (.slice SB c sb)).cast (cs' := #[.slice NB a nb, .slice DB b db, .slice SB c sb]) (by simp))
  have XF := hid (Ext.put (Ext.put (Ext.put XW.out (p := ⟨w.heap.size + 1 + 1, 0, none⟩) (by simp only; omega) (.slice NB a nb)) (p := ⟨w.heap.size + 1 + 1, 1, none⟩) (by simp only; omega) (.slice DB b db)) (p := ⟨w.heap.size + 1 + 1, 2, none⟩) (by simp only; omega) (.slice SB c sb))
  refine bodyPost_ret (results_blk2 rfl _ _ (w.heap.size + 1 + 1) 25 _ _ rfl HBF.out Tryd.underlying25 rfl (by kernel_rfl)) rfl ?_
  exact ⟨_, by rw [HR.out]; rfl, by rw [HR.out]; exact (((FO.out.put (p := ⟨w.heap.size + 1 + 1, 0, none⟩) HSZ.out _).put (p := ⟨w.heap.size + 1 + 1, 1, none⟩) HSZ.out _).put (p := ⟨w.heap.size + 1 + 1, 2, none⟩) HSZ.out _).low XZ.out.size, XF.out⟩
/-- an op is done -/
theorem doneP_any (f : Fs.FSy) (o : Fs.Opn) (v : Value) (w : World) (hv : FsV w v f) (hb : Fs.FsB f) (hs : o.2.1.size ≤ 140737488355328) (ht : o.2.2.1.size ≤ 140737488355328) (hx : o.2.2.2.size ≤ 140737488355328) :
    Calls Tryd.prog 13 #[v, Fs.opV o] w fun e w' => ∃ v', e = .returned (.tuple #[v', .int .i64 ((Fs.don f o).2 : Nat)]) ∧ FsO w' w.heap.size v' (Fs.don f o).1 ∧ Ext w w' := by
  by_cases h : Fs.fsck f = 0
  · by_cases h2 : Fs.opck o = 0
    · by_cases h3 : (Fs.dob f o).2 = 0
      · obtain ⟨g1, g2, g3⟩ := Fs.dob_good (Fs.ok_iff.1 h) h2 h3
        exact done_good f o v w hv hb h hs ht hx h2 h3 g1 g2 g3
      · exact done_err f o v w hv hb h hs ht hx h2 h3
    · exact done_form f o v w hv hb h hs ht hx h2
  · exact done_bad f o v w hv hb h
end Go.Proofs.YtolhifnlahllnaaDoor
