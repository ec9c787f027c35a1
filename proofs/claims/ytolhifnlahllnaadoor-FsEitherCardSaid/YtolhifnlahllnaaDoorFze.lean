/- Files: the document: DoneOf: walk (printed by gen_fth.py). Files: the document: DoneOf: a new file; the ways that sweep: walks (printed by gen_fti.py). Files: the document: DoneOf whole; PlayedOf: walk (printed by gen_ftj.py). -/
import Derived.Test.YtolhifnlahllnaaDoorFzd
import Derived.Test.YtolhifnlahllnaaDoorFta
import Derived.Test.YtolhifnlahllnaaDoorFtc
section
namespace Go.Proofs.YtolhifnlahllnaaDoor
open Go.RowKit Hy
def PA (p : Nat → Prop) (A : Option Addr) (n : Nat) : Prop := 0 < n → ∀ a, A = some a → p a.block
/-- a file system by value, whose blocks are of a kind -/
def FsP (p : Nat → Prop) (w : World) (v : Value) (f : Fs.FSy) : Prop := ∃ NA nc DA dc SA sc, v = .agg #[.slice NA f.1.length nc, .slice DA f.2.1.length dc, .slice SA f.2.2.length sc] ∧ (Rd w NA (nds f.1) ∧ Rd w DA (ens f.2.1) ∧ Rd w SA (ens f.2.2) ∧ (NA = none → f.1.length = 0) ∧ (DA = none → f.2.1.length = 0) ∧ (SA = none → f.2.2.length = 0)) ∧ PA p NA f.1.length ∧ PA p DA f.2.1.length ∧ PA p SA f.2.2.length
theorem FsP.V {p : Nat → Prop} {w : World} {v : Value} {f : Fs.FSy} (h : FsP p w v f) : FsV w v f := by
  obtain ⟨NA, nc, DA, dc, SA, sc, e, h1, _⟩ := h
  exact ⟨NA, nc, DA, dc, SA, sc, e, h1⟩
theorem FsP.keep {p : Nat → Prop} {w w' : World} {v : Value} {f : Fs.FSy} (h : FsP p w v f) (hx : Ext w w') : FsP p w' v f := by
  obtain ⟨NA, nc, DA, dc, SA, sc, e, ⟨h1, h2, h3, h4⟩, h5⟩ := h
  exact ⟨NA, nc, DA, dc, SA, sc, e, ⟨h1.keep hx, h2.keep hx, h3.keep hx, h4⟩, h5⟩
theorem FsV.P {w : World} {v : Value} {f : Fs.FSy} (h : FsV w v f) : FsP (fun _ => True) w v f := by
  obtain ⟨NA, nc, DA, dc, SA, sc, e, h1⟩ := h
  exact ⟨NA, nc, DA, dc, SA, sc, e, h1, fun _ _ _ => trivial, fun _ _ _ => trivial, fun _ _ _ => trivial⟩
theorem own_PA {p : Nat → Prop} {w : World} {base : Nat} {e : TypeId} {size : Nat} {A : Option Addr} {n c : Nat} {xs : List Value} (h : w.ownsRow base e size (.slice A n c) n xs) (hp : ∀ b, base ≤ b → p b) : PA p A n := fun _ a ha => by
  subst ha
  exact hp _ (own_block_rng h rfl).1
theorem FsO.P {p : Nat → Prop} {w : World} {base : Nat} {v : Value} {f : Fs.FSy} (h : FsO w base v f) (hp : ∀ b, base ≤ b → p b) : FsP p w v f := by
  obtain ⟨A1, c1, A2, c2, A3, c3, e, h1, h2, h3⟩ := h
  obtain ⟨r1, z1, _⟩ := own_rd h1
  obtain ⟨r2, z2, _⟩ := own_rd h2
  obtain ⟨r3, z3, _⟩ := own_rd h3
  exact ⟨A1, c1, A2, c2, A3, c3, e, ⟨r1, r2, r3, z1, z2, z3⟩, own_PA h1 hp, own_PA h2 hp, own_PA h3 hp⟩
theorem Rd.but {w : World} {A : Option Addr} {cs : List Value} (h : Rd w A cs) {a : Addr} (hne : 0 < cs.length → ∀ b, A = some b → b.block ≠ a.block) (u : Value) : Rd (w.setCell a u) A cs := fun hp => by
  obtain ⟨b, o, e, hb, hc⟩ := h hp
  refine ⟨b, o, e, by rw [size_put]; exact hb, fun j u' hu => ?_⟩
  exact (But.put (but_refl a.block w) a (.inl rfl) u).cell (hc j u' hu) (fun e' => hne hp _ e (Option.some.inj e'))
theorem FsP.put {s : Nat} {w : World} {v : Value} {f : Fs.FSy} (h : FsP (fun b => b ≠ s) w v f) {a : Addr} (ha : a.block = s) (u : Value) : FsP (fun b => b ≠ s) (w.setCell a u) v f := by
  obtain ⟨NA, nc, DA, dc, SA, sc, e, ⟨h1, h2, h3, h4⟩, k1, k2, k3⟩ := h
  subst ha
  refine ⟨NA, nc, DA, dc, SA, sc, e, ⟨Rd.but h1 (fun hp b hb => k1 (by rw [nds_len] at hp; omega) b hb) u, Rd.but h2 (fun hp b hb => k2 (by rw [ens_len] at hp; omega) b hb) u, Rd.but h3 (fun hp b hb => k3 (by rw [ens_len] at hp; omega) b hb) u, h4⟩, k1, k2, k3⟩
theorem FsV.up {w : World} {v : Value} {f : Fs.FSy} (h : FsV w v f) : FsP (fun b => b ≠ w.heap.size) w v f := by
  obtain ⟨NA, nc, DA, dc, SA, sc, e, h1, h2, h3, h4⟩ := h
  refine ⟨NA, nc, DA, dc, SA, sc, e, ⟨h1, h2, h3, h4⟩, fun hp a ha => ?_, fun hp a ha => ?_, fun hp a ha => ?_⟩
  · obtain ⟨b, o, e, hb, _⟩ := h1 (by rw [nds_len]; omega)
    rw [ha] at e; cases e; exact Nat.ne_of_lt hb
  · obtain ⟨b, o, e, hb, _⟩ := h2 (by rw [ens_len]; omega)
    rw [ha] at e; cases e; exact Nat.ne_of_lt hb
  · obtain ⟨b, o, e, hb, _⟩ := h3 (by rw [ens_len]; omega)
    rw [ha] at e; cases e; exact Nat.ne_of_lt hb
theorem FsP.mk' {p : Nat → Prop} {w : World} {f : Fs.FSy} {A1 A2 A3 : Option Addr} {c1 c2 c3 n m q : Nat} (hn : f.1.length = n) (hm : f.2.1.length = m) (hq : f.2.2.length = q) (h1 : Rd w A1 (nds f.1)) (h2 : Rd w A2 (ens f.2.1)) (h3 : Rd w A3 (ens f.2.2)) (z1 : A1 = none → n = 0) (z2 : A2 = none → m = 0) (z3 : A3 = none → q = 0) (k1 : PA p A1 n) (k2 : PA p A2 m) (k3 : PA p A3 q) :
    FsP p w (.agg #[.slice A1 n c1, .slice A2 m c2, .slice A3 q c3]) f := by
  subst hn hm hq
  exact ⟨A1, c1, A2, c2, A3, c3, rfl, ⟨h1, h2, h3, z1, z2, z3⟩, k1, k2, k3⟩
theorem FsV.mk' {w : World} {f : Fs.FSy} {A1 A2 A3 : Option Addr} {c1 c2 c3 n m q : Nat} (hn : f.1.length = n) (hm : f.2.1.length = m) (hq : f.2.2.length = q) (h1 : Rd w A1 (nds f.1)) (h2 : Rd w A2 (ens f.2.1)) (h3 : Rd w A3 (ens f.2.2)) (z1 : A1 = none → n = 0) (z2 : A2 = none → m = 0) (z3 : A3 = none → q = 0) :
    FsV w (.agg #[.slice A1 n c1, .slice A2 m c2, .slice A3 q c3]) f := by
  subst hn hm hq
  exact ⟨A1, c1, A2, c2, A3, c3, rfl, h1, h2, h3, z1, z2, z3⟩
theorem sweptG (F : Fs.FSy) (v : Value) (w : World) (hv : FsV w v F) (h24 : F.1.length ≤ 24) (h1 : Fs.Good F.1.length F.2.1) (h2 : Fs.Good F.1.length F.2.2) :
    Calls Tryd.prog 46 #[v] w fun e w' => ∃ v', e = .returned v' ∧ FsO w' w.heap.size v' (Fs.swp F) ∧ Ext w w' := by
  have k1 := Fs.good_len h1
  have k2 := Fs.good_len h2
  exact sweptOf_any F v w hv h24 (by omega) (by omega) (fun x hx => by have := h1.1 x hx; omega) (fun x hx => by have := h2.1 x hx; omega)
theorem setL_last (l : List Nod) (x : Nod) (t : ByteArray) : Fs.setL (l ++ [x]) l.length t = l ++ [(t, x.2)] := by
  unfold Fs.setL
  induction l with
  | nil => rfl
  | cons y r ih => simp only [List.cons_append, List.length_cons, List.modify_succ_cons, ih]
theorem fs0_P (p : Nat → Prop) (w : World) : FsP p w (.agg #[.slice none 0 0, .slice none 0 0, .slice none 0 0]) Fs.fs0 :=
  ⟨none, 0, none, 0, none, 0, rfl, ⟨fun h => by simp [nds] at h, fun h => by simp [ens] at h, fun h => by simp [ens] at h, fun _ => rfl, fun _ => rfl, fun _ => rfl⟩, fun h => absurd h (by simp), fun h => absurd h (by simp), fun h => absurd h (by simp)⟩
theorem fsCheck_V (f : Fs.FSy) (v : Value) (w : World) (h : FsV w v f) (hb : Fs.FsB f) : Calls Tryd.prog 20 #[v] w fun e w' => e = .returned (.int .i64 (Fs.fsck f : Nat)) ∧ Ext w w' := by
  obtain ⟨NA, nc, DA, dc, SA, sc, rfl, h1, h2, h3, _⟩ := h
  exact fsCheck_any f NA DA SA _ nc _ dc _ sc w rfl h1 rfl h2 rfl h3 hb.n hb.m hb.q hb.d hb.s
set_option maxHeartbeats 3200000 in
set_option maxRecDepth 100000 in
theorem doneOf_bad (p : Nat → Prop) (f : Fs.FSy) (kk : Int) (nn tt xx : ByteArray) (v : Value) (w : World) (hv : FsP p w v f) (hp : ∀ b, w.heap.size ≤ b → p b) (hb : Fs.FsB f) (h : Fs.fsck f ≠ 0) :
    Calls Tryd.prog 16 #[v, .agg #[.int .i64 kk, .string nn, .string tt, .string xx]] w fun e w' => ∃ v', e = .returned (.tuple #[v', .int .i64 ((Fs.don f (kk, nn, tt, xx)).2 : Nat)]) ∧ FsP p w' v' (Fs.don f (kk, nn, tt, xx)).1 ∧ Ext w w' := by
  have HCK := hid (fun wx (hx : Ext w wx) => fsCheck_V f v wx (hv.V.keep hx) hb)
  obtain ⟨NA, nc, DA, dc, SA, sc, rfl, ⟨h1, h2, h3, z1, z2, z3⟩, k1, k2, k3⟩ := hv
  obtain ⟨n, hn⟩ : ∃ n, n = f.1.length := ⟨_, rfl⟩
  obtain ⟨m, hm⟩ : ∃ n, n = f.2.1.length := ⟨_, rfl⟩
  obtain ⟨q, hq⟩ : ∃ n, n = f.2.2.length := ⟨_, rfl⟩
  rw [← hn, ← hm, ← hq] at HCK ⊢
  rw [← hn] at k1 z1
  rw [← hm] at k2 z2
  rw [← hq] at k3 z3
  have HN := hid hn; have HM := hid hm; have HQ := hid hq
  have HR1 := hid h1; have HR2 := hid h2; have HR3 := hid h3
  have HK1 := hid k1; have HK2 := hid k2; have HK3 := hid k3
  have HZ1 := hid z1; have HZ2 := hid z2; have HZ3 := hid z3
  have HP := hid hp
  have HR := hid (Fs.don_bad (o := (kk, nn, tt, xx)) h)
  obtain ⟨E, hE⟩ : ∃ E, E = Fs.fsck f := ⟨_, rfl⟩
  rw [← hE] at h HCK HR
  have e1 : ((E : Int) == 0) = false := beq_eq_false_iff_ne.2 (by omega)
  have e2 : ((E : Int) != 0) = true := by simp; omega
  clear hb h1 h2 h3 k1 k2 k3 z1 z2 z3 hp hn hm hq h hE
  go_enter Tryd.func16, Tryd.ntmps16
  go_upto_region 1 with fail
  refine wp_gen (fun w' => Ext w w' ∧ Blk w' w.heap.size 25 #[.slice NA n nc, .slice DA m dc, .slice SA q sc] ∧ Blk w' (w.heap.size + 1) 27 #[.int .i64 kk, .string nn, .string tt, .string xx] ∧ Blk w' (w.heap.size + 1 + 1) 25 #[.slice none 0 0, .slice none 0 0, .slice none 0 0]) ⟨(((ext_refl _).new _).new _).new _, ((Blk.new _ _ _).alloc _).alloc _, (Blk.newAt (by simp)).alloc _, Blk.newAt (by simp)⟩ ?_
  rintro wz ⟨B0, B1, B2, B3⟩
  have XZ : Hid (Ext w wz) := hid B0
  have F1 := hid B1
  have F2 := hid B2
  have F3 := hid B3
  have p0 := B1.cell 0
  have p1 := B1.cell 1
  have p2 := B1.cell 2
  clear B0 B1 B2 B3
  go_wp2_with fail
  refine Calls.mono (HCK.out _ XZ.out) ?_
  rintro e w1 ⟨rfl, hx⟩
  replace XZ : Hid (Ext w w1) := hid (XZ.out.then hx)
  replace F1 := hid (F1.out.keep hx)
  replace F2 := hid (F2.out.keep hx)
  replace F3 := hid (F3.out.keep hx)
  clear hx p0 p1 p2
  have z0 := F3.out.cell 0
  have z1 := F3.out.cell 1
  have z2 := F3.out.cell 2
  have y0 := F3.out.frozen 0
  have y1 := F3.out.frozen 1
  have y2 := F3.out.frozen 2
  go_wp2
  have HBF := hid ((((F3.out.set 0 (.slice none 0 0)).set 1 (.slice none 0 0)).set 2 (.slice none 0 0)).cast (cs' := #[.slice none 0 0, .slice none 0 0, .slice none 0 0]) (by simp))
  have XF := hid (Ext.put (Ext.put (Ext.put XZ.out (p := ⟨w.heap.size + 1 + 1, 0, none⟩) (by simp only; omega) (.slice none 0 0)) (p := ⟨w.heap.size + 1 + 1, 1, none⟩) (by simp only; omega) (.slice none 0 0)) (p := ⟨w.heap.size + 1 + 1, 2, none⟩) (by simp only; omega) (.slice none 0 0))
  refine bodyPost_ret (results_blk2 rfl _ _ (w.heap.size + 1 + 1) 25 _ _ rfl HBF.out Tryd.underlying25 rfl (by kernel_rfl)) rfl ?_
  exact ⟨_, by rw [HR.out]; rfl, by rw [HR.out]; exact fs0_P _ _, XF.out⟩
set_option maxHeartbeats 3200000 in
set_option maxRecDepth 100000 in
theorem doneOf_form (p : Nat → Prop) (f : Fs.FSy) (kk : Int) (nn tt xx : ByteArray) (v : Value) (w : World) (hv : FsP p w v f) (hp : ∀ b, w.heap.size ≤ b → p b) (hb : Fs.FsB f) (h : Fs.fsck f = 0) (hs : nn.size ≤ 140737488355328) (ht : tt.size ≤ 140737488355328) (hx : xx.size ≤ 140737488355328) (hc : Fs.opck (kk, nn, tt, xx) ≠ 0) :
    Calls Tryd.prog 16 #[v, .agg #[.int .i64 kk, .string nn, .string tt, .string xx]] w fun e w' => ∃ v', e = .returned (.tuple #[v', .int .i64 ((Fs.don f (kk, nn, tt, xx)).2 : Nat)]) ∧ FsP p w' v' (Fs.don f (kk, nn, tt, xx)).1 ∧ Ext w w' := by
  have HCK := hid (fun wx (hx : Ext w wx) => fsCheck_V f v wx (hv.V.keep hx) hb)
  obtain ⟨NA, nc, DA, dc, SA, sc, rfl, ⟨h1, h2, h3, z1, z2, z3⟩, k1, k2, k3⟩ := hv
  obtain ⟨n, hn⟩ : ∃ n, n = f.1.length := ⟨_, rfl⟩
  obtain ⟨m, hm⟩ : ∃ n, n = f.2.1.length := ⟨_, rfl⟩
  obtain ⟨q, hq⟩ : ∃ n, n = f.2.2.length := ⟨_, rfl⟩
  rw [← hn, ← hm, ← hq] at HCK ⊢
  rw [← hn] at k1 z1
  rw [← hm] at k2 z2
  rw [← hq] at k3 z3
  have HN := hid hn; have HM := hid hm; have HQ := hid hq
  have HR1 := hid h1; have HR2 := hid h2; have HR3 := hid h3
  have HK1 := hid k1; have HK2 := hid k2; have HK3 := hid k3
  have HZ1 := hid z1; have HZ2 := hid z2; have HZ3 := hid z3
  have HP := hid hp
  have HR := hid (Fs.don_form h hc)
  have HFM := hid (fun wx => opCheck_any kk nn tt xx wx hs ht hx)
  obtain ⟨E, hE⟩ : ∃ E, E = Fs.opck (kk, nn, tt, xx) := ⟨_, rfl⟩
  rw [← hE] at hc HFM HR
  rw [h] at HCK
  have e1 : ((E : Int) == 0) = false := beq_eq_false_iff_ne.2 (by omega)
  have e2 : ((E : Int) != 0) = true := by simp; omega
  clear hb h1 h2 h3 k1 k2 k3 z1 z2 z3 hp hn hm hq h hs ht hx hc hE
  go_enter Tryd.func16, Tryd.ntmps16
  go_upto_region 1 with fail
  refine wp_gen (fun w' => Ext w w' ∧ Blk w' w.heap.size 25 #[.slice NA n nc, .slice DA m dc, .slice SA q sc] ∧ Blk w' (w.heap.size + 1) 27 #[.int .i64 kk, .string nn, .string tt, .string xx] ∧ Blk w' (w.heap.size + 1 + 1) 25 #[.slice none 0 0, .slice none 0 0, .slice none 0 0]) ⟨(((ext_refl _).new _).new _).new _, ((Blk.new _ _ _).alloc _).alloc _, (Blk.newAt (by simp)).alloc _, Blk.newAt (by simp)⟩ ?_
  rintro wz ⟨B0, B1, B2, B3⟩
  have XZ : Hid (Ext w wz) := hid B0
  have F1 := hid B1
  have F2 := hid B2
  have F3 := hid B3
  have p0 := B1.cell 0
  have p1 := B1.cell 1
  have p2 := B1.cell 2
  clear B0 B1 B2 B3
  go_wp2_with fail
  refine Calls.mono (HCK.out _ XZ.out) ?_
  rintro e w1 ⟨rfl, hx⟩
  replace XZ : Hid (Ext w w1) := hid (XZ.out.then hx)
  replace F1 := hid (F1.out.keep hx)
  replace F2 := hid (F2.out.keep hx)
  replace F3 := hid (F3.out.keep hx)
  clear hx p0 p1 p2
  have o0 := F2.out.cell 0
  have o1 := F2.out.cell 1
  have o2 := F2.out.cell 2
  have o3 := F2.out.cell 3
  go_wp2_with fail
  refine Calls.mono (HFM.out _) ?_
  rintro e w2 ⟨rfl, hx⟩
  replace XZ : Hid (Ext w w2) := hid (XZ.out.then hx)
  replace F1 := hid (F1.out.keep hx)
  replace F2 := hid (F2.out.keep hx)
  replace F3 := hid (F3.out.keep hx)
  clear hx o0 o1 o2 o3
  have z0 := F3.out.cell 0
  have z1 := F3.out.cell 1
  have z2 := F3.out.cell 2
  have y0 := F3.out.frozen 0
  have y1 := F3.out.frozen 1
  have y2 := F3.out.frozen 2
  go_wp2
  have HBF := hid ((((F3.out.set 0 (.slice none 0 0)).set 1 (.slice none 0 0)).set 2 (.slice none 0 0)).cast (cs' := #[.slice none 0 0, .slice none 0 0, .slice none 0 0]) (by simp))
  have XF := hid (Ext.put (Ext.put (Ext.put XZ.out (p := ⟨w.heap.size + 1 + 1, 0, none⟩) (by simp only; omega) (.slice none 0 0)) (p := ⟨w.heap.size + 1 + 1, 1, none⟩) (by simp only; omega) (.slice none 0 0)) (p := ⟨w.heap.size + 1 + 1, 2, none⟩) (by simp only; omega) (.slice none 0 0))
  refine bodyPost_ret (results_blk2 rfl _ _ (w.heap.size + 1 + 1) 25 _ _ rfl HBF.out Tryd.underlying25 rfl (by kernel_rfl)) rfl ?_
  exact ⟨_, by rw [HR.out]; rfl, by rw [HR.out]; exact fs0_P _ _, XF.out⟩
set_option maxHeartbeats 3200000 in
set_option maxRecDepth 100000 in
theorem doneOf_k1o (p : Nat → Prop) (f : Fs.FSy) (nn tt xx : ByteArray) (v : Value) (w : World) (hv : FsP p w v f) (hp : ∀ b, w.heap.size ≤ b → p b) (hb : Fs.FsB f) (h : Fs.Ok f) (hs : nn.size ≤ 140737488355328) (ht : tt.size ≤ 140737488355328) (hx : xx.size ≤ 140737488355328) (hc : Fs.opck (1, nn, tt, xx) = 0) (hs' : ¬ Fs.nof f.2.1 nn < 0) :
    Calls Tryd.prog 16 #[v, .agg #[.int .i64 1, .string nn, .string tt, .string xx]] w fun e w' => ∃ v', e = .returned (.tuple #[v', .int .i64 ((Fs.raw f (1, nn, tt, xx)).2 : Nat)]) ∧ FsP p w' v' (Fs.raw f (1, nn, tt, xx)).1 ∧ Ext w w' := by
  have HCK := hid (fun wx (hx : Ext w wx) => fsCheck_V f v wx (hv.V.keep hx) hb)
  obtain ⟨NA, nc, DA, dc, SA, sc, rfl, ⟨h1, h2, h3, z1, z2, z3⟩, k1, k2, k3⟩ := hv
  obtain ⟨n, hn⟩ : ∃ n, n = f.1.length := ⟨_, rfl⟩
  obtain ⟨m, hm⟩ : ∃ n, n = f.2.1.length := ⟨_, rfl⟩
  obtain ⟨q, hq⟩ : ∃ n, n = f.2.2.length := ⟨_, rfl⟩
  rw [← hn, ← hm, ← hq] at HCK ⊢
  rw [← hn] at k1 z1
  rw [← hm] at k2 z2
  rw [← hq] at k3 z3
  have HN := hid hn; have HM := hid hm; have HQ := hid hq
  have HR1 := hid h1; have HR2 := hid h2; have HR3 := hid h3
  have HK1 := hid k1; have HK2 := hid k2; have HK3 := hid k3
  have HZ1 := hid z1; have HZ2 := hid z2; have HZ3 := hid z3
  have HP := hid hp
  have HFM := hid (fun wx => opCheck_any 1 nn tt xx wx hs ht hx)
  rw [hc] at HFM
  have h0 := Fs.ok_iff.2 h
  rw [h0] at HCK
  have h24 := h.few
  have hmn := Fs.good_len h.dir
  have hqn := Fs.good_len h.syn
  have HOK := hid h
  have HOP := hid hc
  have HL24 := hid (show n ≤ 24 by omega)
  have HM24 := hid (show m ≤ 24 by omega)
  have HQ24 := hid (show q ≤ 24 by omega)
  have HND := hid (fun wx (hx : Ext w wx) => nodeOf_any f.2.1 nn DA m dc wx hm.symm (h2.keep hx) (by omega))
  have hnI : (n : Int) ≤ 24 := by omega
  have hmI : (m : Int) ≤ 24 := by omega
  obtain ⟨j, hj⟩ : ∃ j : Nat, Fs.nof f.2.1 nn = (j : Int) := ⟨(Fs.nof f.2.1 nn).toNat, by omega⟩
  have hjn : j < n := by have := Fs.nof_rng (Fs.dir_iff.2 h.dir) nn; omega
  rw [hj] at HND
  have HJN := hid hjn
  have hjI : (j : Int) < (n : Int) := by omega
  have HRW := hid (show Fs.raw f (1, nn, tt, xx) = ((Fs.setL f.1 j xx, f.2.1, f.2.2), 0) by unfold Fs.raw Fs.wrt; simp only; rw [if_pos trivial, if_neg hs', hj, Int.toNat_natCast])
  clear hb h1 h2 h3 k1 k2 k3 z1 z2 z3 hp hn hm hq h hs ht hx hc h0 h24 hmn hqn hs' hj hjn
  go_enter Tryd.func16, Tryd.ntmps16
  go_upto_region 1 with fail
  refine wp_gen (fun w' => Ext w w' ∧ Blk w' w.heap.size 25 #[.slice NA n nc, .slice DA m dc, .slice SA q sc] ∧ Blk w' (w.heap.size + 1) 27 #[.int .i64 1, .string nn, .string tt, .string xx] ∧ Blk w' (w.heap.size + 1 + 1) 25 #[.slice none 0 0, .slice none 0 0, .slice none 0 0]) ⟨(((ext_refl _).new _).new _).new _, ((Blk.new _ _ _).alloc _).alloc _, (Blk.newAt (by simp)).alloc _, Blk.newAt (by simp)⟩ ?_
  rintro wz ⟨B0, B1, B2, B3⟩
  have XZ : Hid (Ext w wz) := hid B0
  have F1 := hid B1
  have F2 := hid B2
  have F3 := hid B3
  have p0 := B1.cell 0
  have p1 := B1.cell 1
  have p2 := B1.cell 2
  clear B0 B1 B2 B3
  go_wp2_with fail
  refine Calls.mono (HCK.out _ XZ.out) ?_
  rintro e w1 ⟨rfl, hx⟩
  replace XZ : Hid (Ext w w1) := hid (XZ.out.then hx)
  replace F1 := hid (F1.out.keep hx)
  replace F2 := hid (F2.out.keep hx)
  replace F3 := hid (F3.out.keep hx)
  clear hx p0 p1 p2
  have o0 := F2.out.cell 0
  have o1 := F2.out.cell 1
  have o2 := F2.out.cell 2
  have o3 := F2.out.cell 3
  go_wp2_with fail
  refine Calls.mono (HFM.out _) ?_
  rintro e w2 ⟨rfl, hx⟩
  replace XZ : Hid (Ext w w2) := hid (XZ.out.then hx)
  replace F1 := hid (F1.out.keep hx)
  replace F2 := hid (F2.out.keep hx)
  replace F3 := hid (F3.out.keep hx)
  clear hx o0 o1 o2 o3
  have g0 := F1.out.cell 0
  have g1 := F1.out.cell 1
  have g2 := F1.out.cell 2
  go_upto_region 6 with fail
  refine Code.wp_mono (Q := fun e a w' => e = .normal ∧ ∃ (g gx : Nat) (A1 : Option Addr) (c1 : Nat), a = ⟨#[.agg #[.slice NA n nc, .slice DA m dc, .slice SA q sc], .agg #[.int .i64 1, .string nn, .string tt, .string xx], .pointer (some ⟨w.heap.size, 0, none⟩), .pointer (some ⟨w.heap.size + 1, 0, none⟩), .pointer (some ⟨w.heap.size + 1 + 1, 0, none⟩), .int .i64 0, .int .i64 0, .pointer (some ⟨g, 0, none⟩), undef, .agg #[.slice NA n nc, .slice DA m dc, .slice SA q sc], .int .i64 0, .int .i64 0, .bool true, .agg #[.int .i64 1, .string nn, .string tt, .string xx], .int .i64 0, .int .i64 0, .bool false, undef, undef, .slice (some ⟨gx, 0, none⟩) 0 0, .pointer (some ⟨w.heap.size, 0, none⟩), .slice NA n nc, .slice A1 n c1, .pointer (some ⟨w.heap.size, 1, none⟩), .slice DA m dc, .pointer (some ⟨w.heap.size, 2, none⟩), .slice SA q sc, .agg #[.slice A1 n c1, .slice DA m dc, .slice SA q sc], undef, undef, undef, undef, undef, undef, undef, undef, undef, undef, undef, undef, undef, undef, undef, undef, undef, undef, undef, undef, undef, undef, undef, undef, undef, undef, undef, undef, undef, undef, undef, undef, undef, undef, undef, undef, undef, undef, undef, undef, undef, undef, undef, undef, undef, undef, undef, undef, undef, undef, undef, undef, undef, undef, undef, undef, undef, undef, undef, undef, undef, undef, undef, undef, undef, undef, undef, undef, undef, undef, undef, undef, undef, undef, undef, undef, undef, undef, undef, undef, undef, undef, undef, undef, undef, undef, undef, undef], []⟩ ∧ Hid (Ext w2 w') ∧ Hid (w2.heap.size ≤ g) ∧ Hid (Blk w' g 25 #[.slice A1 n c1, .slice DA m dc, .slice SA q sc]) ∧ Hid (w'.ownsRow w2.heap.size 49 2 (.slice A1 n c1) n (nds f.1))) ?_ ?_
  rotate_left
  · have g0r := cell_regrown g0
    have g1r := cell_regrown g1
    have g2r := cell_regrown g2
    refine wp_region_tree (.one 1 true (.one 2 true (.one 4 true (.one 5 true (.one 6 true (.one 7 true (.two 0 9 (.two 3 9 (.one 8 true (.one 9 false (.one 10 false (.nil)))) (.one 3 false (.one 8 true (.one 10 false (.nil))))) (.one 0 false (.one 3 false (.one 8 true (.one 10 false (.nil)))))))))))) (by kernel_rfl) (by kernel_rfl) (by rintro _ _ _ _ _ ⟨h, _⟩; cases h) (by kernel_rfl) (by rfl) ?_
    simp only [fillT, List.getD_cons_zero, List.getD_cons_succ]
    have Y0 : Ext w2 w2.drew := (ext_refl w2).draw
    generalize w2.drew = y0 at Y0 ⊢
    repeat (refine wpTO_val (by rfl) ?_; intro K hK; go_big_quiet_op; go_big_quiet_on)
    refine wpTO_two ?_ ?_
    · refine wpTO_do (by rfl) ?_
      intro K hK
      go_simp
      have O1 : (y0.alloc (.cells #[] 49)).ownsRow w2.heap.size 49 2 (.slice (some ⟨y0.heap.size, 0, none⟩) 0 0) 0 (nds []) := own_new (C := #[]) rfl rfl (Y0).size (Nat.zero_le _)
      have Y1 := Ext.new Y0 (.cells #[] 49)
      generalize y0.alloc (.cells #[] 49) = y1 at *
      generalize y0.heap.size = gx at *
      refine hK _ _ Y1 ?_
      clear K hK
      refine wpTO_two ?_ ?_
      · refine wpTO_do (by rfl) ?_
        intro K hK
        refine wp_app (.tmp 19) (.tmp 21) rowNo rfl _ 0 (nds []) rfl O1 _ n (nds f.1) rfl (Src.rd Tryd.underlying22 _ n nc _ (by rw [nds_len, HN.out]) (HR1.out.keep (XZ.out.then Y1)) (nds_one _) HZ1.out) (by have := HL24.out; simp only [maxLen] at *; omega) (by have := HL24.out; omega) (Y1).size ?_
        intro v' y2 hown9 hgrow hat hbel
        rw [Nat.zero_add] at hown9
        have Y2 : Ext w2 y2 := Below.trans Y1 hbel
        clear O1
        have O1 : y2.ownsRow w2.heap.size 49 2 v' n (nds f.1) := hown9
        clear hown9
        obtain ⟨A1, c1, rfl, _, _, _, _⟩ := Rd.owned O1
        refine hK _ _ Y2 ?_
        clear K hK hgrow hat hbel
        simp only [Act.put, List.setIfInBounds_toArray, List.set_cons_zero, List.set_cons_succ]
        repeat (refine wpTO_val (by rfl) ?_; intro K hK; go_big_quiet_op; go_big_quiet_on)
        refine wpTO_do (by rfl) ?_
        intro K hK
        go_simp
        replace O1 := own_ext O1 (Ext.new (ext_refl y2) (.cells #[.slice none 0 0, .slice none 0 0, .slice none 0 0] 25))
        have BG := Blk.new y2 25 #[.slice none 0 0, .slice none 0 0, .slice none 0 0]
        have Y3 := Ext.new Y2 (.cells #[.slice none 0 0, .slice none 0 0, .slice none 0 0] 25)
        have hgs := (Y2).size
        obtain ⟨g, hg⟩ : ∃ g, g = (y2 : World).heap.size := ⟨_, rfl⟩
        rw [← hg] at BG hgs ⊢
        generalize (y2 : World).alloc (.cells #[.slice none 0 0, .slice none 0 0, .slice none 0 0] 25) = y3 at *
        refine hK _ _ Y3 ?_
        clear K hK hg
        have q0 := BG.cell 0
        have q1 := BG.cell 1
        have q2 := BG.cell 2
        have f0 := BG.frozen 0
        have f1 := BG.frozen 1
        have f2 := BG.frozen 2
        refine wpTO_do (by rfl) ?_
        intro K hK
        go_simp
        refine hK _ _ (Ext.put (Ext.put (Ext.put Y3 (p := ⟨g, 0, none⟩) hgs (.slice A1 n c1)) (p := ⟨g, 1, none⟩) hgs (.slice DA m dc)) (p := ⟨g, 2, none⟩) hgs (.slice SA q sc)) ?_
        clear K hK
        refine wpTO_nil ?_
        refine ⟨rfl, g, gx, A1, c1, rfl, hid (Ext.put (Ext.put (Ext.put Y3 (p := ⟨g, 0, none⟩) hgs (.slice A1 n c1)) (p := ⟨g, 1, none⟩) hgs (.slice DA m dc)) (p := ⟨g, 2, none⟩) hgs (.slice SA q sc)), hid hgs, hid ((((BG.set 0 (.slice A1 n c1)).set 1 (.slice DA m dc)).set 2 (.slice SA q sc)).cast (by simp)), hid ?_⟩
        exact own_put (own_put (own_put O1 (p := ⟨g, 0, none⟩) (own_nblk O1 BG (by decide)) _) (p := ⟨g, 1, none⟩) (own_nblk O1 BG (by decide)) _) (p := ⟨g, 2, none⟩) (own_nblk O1 BG (by decide)) _
      · refine wpTO_do (by rfl) ?_
        intro K hK
        go_simp
        replace O1 := own_ext O1 (Ext.new (ext_refl y1) (.cells #[.slice none 0 0, .slice none 0 0, .slice none 0 0] 25))
        have BG := Blk.new y1 25 #[.slice none 0 0, .slice none 0 0, .slice none 0 0]
        have Y4 := Ext.new Y1 (.cells #[.slice none 0 0, .slice none 0 0, .slice none 0 0] 25)
        have hgs := (Y1).size
        obtain ⟨g, hg⟩ : ∃ g, g = (y1 : World).heap.size := ⟨_, rfl⟩
        rw [← hg] at BG hgs ⊢
        generalize (y1 : World).alloc (.cells #[.slice none 0 0, .slice none 0 0, .slice none 0 0] 25) = y4 at *
        refine hK _ _ Y4 ?_
        clear K hK hg
        refine wpTO_do (by rfl) ?_
        intro K hK
        refine wp_app (.tmp 19) (.tmp 21) rowNo rfl _ 0 (nds []) rfl O1 _ n (nds f.1) rfl (Src.rd Tryd.underlying22 _ n nc _ (by rw [nds_len, HN.out]) (HR1.out.keep (XZ.out.then Y4)) (nds_one _) HZ1.out) (by have := HL24.out; simp only [maxLen] at *; omega) (by have := HL24.out; omega) (Y4).size ?_
        intro v' y5 hown9 hgrow hat hbel
        rw [Nat.zero_add] at hown9
        have Y5 : Ext w2 y5 := Below.trans Y4 hbel
        replace BG := Blk.grown BG hgrow (own_nblk O1 BG (by decide))
        clear O1
        have O1 : y5.ownsRow w2.heap.size 49 2 v' n (nds f.1) := hown9
        clear hown9
        obtain ⟨A1, c1, rfl, _, _, _, _⟩ := Rd.owned O1
        refine hK _ _ Y5 ?_
        clear K hK hgrow hat hbel
        simp only [Act.put, List.setIfInBounds_toArray, List.set_cons_zero, List.set_cons_succ]
        repeat (refine wpTO_val (by rfl) ?_; intro K hK; go_big_quiet_op; go_big_quiet_on)
        have q0 := BG.cell 0
        have q1 := BG.cell 1
        have q2 := BG.cell 2
        have f0 := BG.frozen 0
        have f1 := BG.frozen 1
        have f2 := BG.frozen 2
        refine wpTO_do (by rfl) ?_
        intro K hK
        go_simp
        refine hK _ _ (Ext.put (Ext.put (Ext.put Y5 (p := ⟨g, 0, none⟩) hgs (.slice A1 n c1)) (p := ⟨g, 1, none⟩) hgs (.slice DA m dc)) (p := ⟨g, 2, none⟩) hgs (.slice SA q sc)) ?_
        clear K hK
        refine wpTO_nil ?_
        refine ⟨rfl, g, gx, A1, c1, rfl, hid (Ext.put (Ext.put (Ext.put Y5 (p := ⟨g, 0, none⟩) hgs (.slice A1 n c1)) (p := ⟨g, 1, none⟩) hgs (.slice DA m dc)) (p := ⟨g, 2, none⟩) hgs (.slice SA q sc)), hid hgs, hid ((((BG.set 0 (.slice A1 n c1)).set 1 (.slice DA m dc)).set 2 (.slice SA q sc)).cast (by simp)), hid ?_⟩
        exact own_put (own_put (own_put O1 (p := ⟨g, 0, none⟩) (own_nblk O1 BG (by decide)) _) (p := ⟨g, 1, none⟩) (own_nblk O1 BG (by decide)) _) (p := ⟨g, 2, none⟩) (own_nblk O1 BG (by decide)) _
    · refine wpTO_do (by rfl) ?_
      intro K hK
      go_simp
      have BG := Blk.new y0 25 #[.slice none 0 0, .slice none 0 0, .slice none 0 0]
      have Y6 := Ext.new Y0 (.cells #[.slice none 0 0, .slice none 0 0, .slice none 0 0] 25)
      have hgs := (Y0).size
      obtain ⟨g, hg⟩ : ∃ g, g = (y0 : World).heap.size := ⟨_, rfl⟩
      rw [← hg] at BG hgs ⊢
      generalize (y0 : World).alloc (.cells #[.slice none 0 0, .slice none 0 0, .slice none 0 0] 25) = y6 at *
      refine hK _ _ Y6 ?_
      clear K hK hg
      refine wpTO_do (by rfl) ?_
      intro K hK
      go_simp
      replace BG := Blk.keep BG (Ext.new (ext_refl y6) (.cells #[] 49))
      have O1 : (y6.alloc (.cells #[] 49)).ownsRow w2.heap.size 49 2 (.slice (some ⟨y6.heap.size, 0, none⟩) 0 0) 0 (nds []) := own_new (C := #[]) rfl rfl (Y6).size (Nat.zero_le _)
      have Y7 := Ext.new Y6 (.cells #[] 49)
      generalize y6.alloc (.cells #[] 49) = y7 at *
      generalize y6.heap.size = gx at *
      refine hK _ _ Y7 ?_
      clear K hK
      refine wpTO_do (by rfl) ?_
      intro K hK
      refine wp_app (.tmp 19) (.tmp 21) rowNo rfl _ 0 (nds []) rfl O1 _ n (nds f.1) rfl (Src.rd Tryd.underlying22 _ n nc _ (by rw [nds_len, HN.out]) (HR1.out.keep (XZ.out.then Y7)) (nds_one _) HZ1.out) (by have := HL24.out; simp only [maxLen] at *; omega) (by have := HL24.out; omega) (Y7).size ?_
      intro v' y8 hown9 hgrow hat hbel
      rw [Nat.zero_add] at hown9
      have Y8 : Ext w2 y8 := Below.trans Y7 hbel
      replace BG := Blk.grown BG hgrow (own_nblk O1 BG (by decide))
      clear O1
      have O1 : y8.ownsRow w2.heap.size 49 2 v' n (nds f.1) := hown9
      clear hown9
      obtain ⟨A1, c1, rfl, _, _, _, _⟩ := Rd.owned O1
      refine hK _ _ Y8 ?_
      clear K hK hgrow hat hbel
      simp only [Act.put, List.setIfInBounds_toArray, List.set_cons_zero, List.set_cons_succ]
      repeat (refine wpTO_val (by rfl) ?_; intro K hK; go_big_quiet_op; go_big_quiet_on)
      have q0 := BG.cell 0
      have q1 := BG.cell 1
      have q2 := BG.cell 2
      have f0 := BG.frozen 0
      have f1 := BG.frozen 1
      have f2 := BG.frozen 2
      refine wpTO_do (by rfl) ?_
      intro K hK
      go_simp
      refine hK _ _ (Ext.put (Ext.put (Ext.put Y8 (p := ⟨g, 0, none⟩) hgs (.slice A1 n c1)) (p := ⟨g, 1, none⟩) hgs (.slice DA m dc)) (p := ⟨g, 2, none⟩) hgs (.slice SA q sc)) ?_
      clear K hK
      refine wpTO_nil ?_
      refine ⟨rfl, g, gx, A1, c1, rfl, hid (Ext.put (Ext.put (Ext.put Y8 (p := ⟨g, 0, none⟩) hgs (.slice A1 n c1)) (p := ⟨g, 1, none⟩) hgs (.slice DA m dc)) (p := ⟨g, 2, none⟩) hgs (.slice SA q sc)), hid hgs, hid ((((BG.set 0 (.slice A1 n c1)).set 1 (.slice DA m dc)).set 2 (.slice SA q sc)).cast (by simp)), hid ?_⟩
      exact own_put (own_put (own_put O1 (p := ⟨g, 0, none⟩) (own_nblk O1 BG (by decide)) _) (p := ⟨g, 1, none⟩) (own_nblk O1 BG (by decide)) _) (p := ⟨g, 2, none⟩) (own_nblk O1 BG (by decide)) _

  rintro e a y ⟨rfl, g, gx, A1, c1, rfl, XY, HGS, BG, O1⟩
  have HWS := hid (show w.heap.size + 3 ≤ w2.heap.size by have := F3.out.lt; omega)
  replace HGS := hid (show w.heap.size + 3 ≤ g from Nat.le_trans HWS.out HGS.out)
  replace O1 := hid (own_low' O1.out HWS.out)
  replace F1 := hid (F1.out.keep XY.out)
  replace F2 := hid (F2.out.keep XY.out)
  replace F3 := hid (F3.out.keep XY.out)
  replace XZ : Hid (Ext w y) := hid (XZ.out.then XY.out)
  replace HWS := hid (show w.heap.size + 3 ≤ y.heap.size from Nat.le_trans HWS.out XY.out.size)
  clear XY g0 g1 g2
  have g0 := F1.out.cell 0
  have g1 := F1.out.cell 1
  have g2 := F1.out.cell 2
  have o0 := F2.out.cell 0
  have o1 := F2.out.cell 1
  have o2 := F2.out.cell 2
  have o3 := F2.out.cell 3
  have u0 := BG.out.cell 0
  have u1 := BG.out.cell 1
  have u2 := BG.out.cell 2
  have t0 := F3.out.cell 0
  have t1 := F3.out.cell 1
  have t2 := F3.out.cell 2
  have x0 := F3.out.frozen 0
  have x1 := F3.out.frozen 1
  have x2 := F3.out.frozen 2
  obtain ⟨g1, rfl⟩ := own_some O1.out (by have := HJN.out; omega)
  have HJF := hid (show j < f.1.length by rw [← HN.out]; exact HJN.out)
  obtain ⟨b4, o4, e4, l4, c4⟩ := (own_rd O1.out).1.nodes j HJF.out
  cases e4
  have d2 := (c4 j HJF.out).1
  have d3 := (c4 j HJF.out).2
  rw [Nat.zero_add] at d2 d3
  obtain ⟨cur, hcur⟩ := own_block O1.out
  have hf := hcur.frozen (j * 2)
  have hf2 := hcur.frozen (j * 2 + 1)
  have HNEg := hid (show g ≠ g1 from fun e => own_nblk O1.out BG.out (by decide) (by rw [e]; rfl))
  have HG1 := hid (show w.heap.size + 3 ≤ g1 from (own_block_rng O1.out rfl).1)
  have hng := HNEg.out
  have hng2 : ¬ g1 = g := fun e => HNEg.out e.symm
  have hnr : ¬ w.heap.size + 1 + 1 = g1 := by have := HG1.out; omega
  have hnr2 : ¬ g1 = w.heap.size + 1 + 1 := by have := HG1.out; omega
  clear c4 l4 hcur cur
  have hgr : ¬ w.heap.size + 1 + 1 = g := by have := HGS.out; omega
  have hgr2 : ¬ g = w.heap.size + 1 + 1 := by have := HGS.out; omega
  have hgs0 : ¬ w.heap.size = g := by have := HGS.out; omega
  have hgs1 : ¬ w.heap.size + 1 = g := by have := HGS.out; omega
  have HSL := hid (Fs.nds_setL f.1 j HJF.out xx)
  generalize (f.1[j]'HJF.out).1 = told at d2
  generalize (f.1[j]'HJF.out).2 = told2 at d3
  go_wp2_with (go_at_call 43; refine (HND.out _ XZ.out).mono ?_; rintro e w4 ⟨rfl, rfl⟩)
  have Z1 := hid (Ext.put XZ.out (p := ⟨g1, j * 2, none⟩) (by have := HG1.out; simp only; omega) (.string xx))
  have Z3 := hid (F3.out.far (p := ⟨g1, j * 2, none⟩) hnr (.string xx))
  have ZO := hid (own_set O1.out rfl (j * 2) (.string xx))
  rw [HSL.out] at ZO
  have hne : w.heap.size + 1 + 1 < w.heap.size + 3 := by omega
  have HBF := hid ((((Z3.out.set 0 (.slice (some ⟨g1, 0, none⟩) n c1)).set 1 (.slice DA m dc)).set 2 (.slice SA q sc)).cast (cs' := #[.slice (some ⟨g1, 0, none⟩) n c1, .slice DA m dc, .slice SA q sc]) (by simp))
  have XF := hid (Ext.put (Ext.put (Ext.put Z1.out (p := ⟨w.heap.size + 1 + 1, 0, none⟩) (by simp only; omega) (.slice (some ⟨g1, 0, none⟩) n c1)) (p := ⟨w.heap.size + 1 + 1, 1, none⟩) (by simp only; omega) (.slice DA m dc)) (p := ⟨w.heap.size + 1 + 1, 2, none⟩) (by simp only; omega) (.slice SA q sc))
  have L0 := hid (own_past (own_past (own_past ZO.out (p := ⟨w.heap.size + 1 + 1, 0, none⟩) hne (.slice (some ⟨g1, 0, none⟩) n c1)) (p := ⟨w.heap.size + 1 + 1, 1, none⟩) hne (.slice DA m dc)) (p := ⟨w.heap.size + 1 + 1, 2, none⟩) hne (.slice SA q sc))
  refine bodyPost_ret (results_blk2 rfl _ _ (w.heap.size + 1 + 1) 25 _ _ rfl HBF.out Tryd.underlying25 rfl (by kernel_rfl)) rfl ?_
  refine ⟨_, by rw [HRW.out]; rfl, ?_, XF.out⟩
  rw [HRW.out]
  exact FsP.mk' (by simp only; rw [Fs.setL_len]; exact HN.out.symm) HM.out.symm HQ.out.symm (own_rd L0.out).1 (HR2.out.keep XF.out) (HR3.out.keep XF.out) (fun h => by cases h) HZ2.out HZ3.out (own_PA L0.out (fun b hb => HP.out b (by omega))) HK2.out HK3.out
set_option maxHeartbeats 3200000 in
set_option maxRecDepth 100000 in
theorem doneOf_k1f (p : Nat → Prop) (f : Fs.FSy) (nn tt xx : ByteArray) (v : Value) (w : World) (hv : FsP p w v f) (hp : ∀ b, w.heap.size ≤ b → p b) (hb : Fs.FsB f) (h : Fs.Ok f) (hs : nn.size ≤ 140737488355328) (ht : tt.size ≤ 140737488355328) (hx : xx.size ≤ 140737488355328) (hc : Fs.opck (1, nn, tt, xx) = 0) (hs' : Fs.nof f.2.1 nn < 0) (h4 : f.1.length = 24) :
    Calls Tryd.prog 16 #[v, .agg #[.int .i64 1, .string nn, .string tt, .string xx]] w fun e w' => ∃ v', e = .returned (.tuple #[v', .int .i64 ((Fs.raw f (1, nn, tt, xx)).2 : Nat)]) ∧ FsP p w' v' (Fs.raw f (1, nn, tt, xx)).1 ∧ Ext w w' := by
  have HCK := hid (fun wx (hx : Ext w wx) => fsCheck_V f v wx (hv.V.keep hx) hb)
  obtain ⟨NA, nc, DA, dc, SA, sc, rfl, ⟨h1, h2, h3, z1, z2, z3⟩, k1, k2, k3⟩ := hv
  obtain ⟨n, hn⟩ : ∃ n, n = f.1.length := ⟨_, rfl⟩
  obtain ⟨m, hm⟩ : ∃ n, n = f.2.1.length := ⟨_, rfl⟩
  obtain ⟨q, hq⟩ : ∃ n, n = f.2.2.length := ⟨_, rfl⟩
  rw [← hn, ← hm, ← hq] at HCK ⊢
  rw [← hn] at k1 z1
  rw [← hm] at k2 z2
  rw [← hq] at k3 z3
  have HN := hid hn; have HM := hid hm; have HQ := hid hq
  have HR1 := hid h1; have HR2 := hid h2; have HR3 := hid h3
  have HK1 := hid k1; have HK2 := hid k2; have HK3 := hid k3
  have HZ1 := hid z1; have HZ2 := hid z2; have HZ3 := hid z3
  have HP := hid hp
  have HFM := hid (fun wx => opCheck_any 1 nn tt xx wx hs ht hx)
  rw [hc] at HFM
  have h0 := Fs.ok_iff.2 h
  rw [h0] at HCK
  have h24 := h.few
  have hmn := Fs.good_len h.dir
  have hqn := Fs.good_len h.syn
  have HOK := hid h
  have HOP := hid hc
  have HL24 := hid (show n ≤ 24 by omega)
  have HM24 := hid (show m ≤ 24 by omega)
  have HQ24 := hid (show q ≤ 24 by omega)
  have HND := hid (fun wx (hx : Ext w wx) => nodeOf_any f.2.1 nn DA m dc wx hm.symm (h2.keep hx) (by omega))
  have hnI : (n : Int) ≤ 24 := by omega
  have hmI : (m : Int) ≤ 24 := by omega
  have hj : Fs.nof f.2.1 nn = -1 := by have := Fs.nof_rng (Fs.dir_iff.2 h.dir) nn; omega
  rw [hj] at HND
  have HR := hid (show Fs.raw f (1, nn, tt, xx) = (Fs.fs0, 2) by unfold Fs.raw Fs.wrt; simp only; rw [if_pos trivial, if_pos hs', if_pos h4])
  have e24 : ((n : Int) == 24) = true := by rw [beq_iff_eq]; omega
  have e25 : (n : Int) = 24 := by omega
  clear hb h1 h2 h3 k1 k2 k3 z1 z2 z3 hp hn hm hq h hs ht hx hc h0 h24 hmn hqn hs' hj h4
  go_enter Tryd.func16, Tryd.ntmps16
  go_upto_region 1 with fail
  refine wp_gen (fun w' => Ext w w' ∧ Blk w' w.heap.size 25 #[.slice NA n nc, .slice DA m dc, .slice SA q sc] ∧ Blk w' (w.heap.size + 1) 27 #[.int .i64 1, .string nn, .string tt, .string xx] ∧ Blk w' (w.heap.size + 1 + 1) 25 #[.slice none 0 0, .slice none 0 0, .slice none 0 0]) ⟨(((ext_refl _).new _).new _).new _, ((Blk.new _ _ _).alloc _).alloc _, (Blk.newAt (by simp)).alloc _, Blk.newAt (by simp)⟩ ?_
  rintro wz ⟨B0, B1, B2, B3⟩
  have XZ : Hid (Ext w wz) := hid B0
  have F1 := hid B1
  have F2 := hid B2
  have F3 := hid B3
  have p0 := B1.cell 0
  have p1 := B1.cell 1
  have p2 := B1.cell 2
  clear B0 B1 B2 B3
  go_wp2_with fail
  refine Calls.mono (HCK.out _ XZ.out) ?_
  rintro e w1 ⟨rfl, hx⟩
  replace XZ : Hid (Ext w w1) := hid (XZ.out.then hx)
  replace F1 := hid (F1.out.keep hx)
  replace F2 := hid (F2.out.keep hx)
  replace F3 := hid (F3.out.keep hx)
  clear hx p0 p1 p2
  have o0 := F2.out.cell 0
  have o1 := F2.out.cell 1
  have o2 := F2.out.cell 2
  have o3 := F2.out.cell 3
  go_wp2_with fail
  refine Calls.mono (HFM.out _) ?_
  rintro e w2 ⟨rfl, hx⟩
  replace XZ : Hid (Ext w w2) := hid (XZ.out.then hx)
  replace F1 := hid (F1.out.keep hx)
  replace F2 := hid (F2.out.keep hx)
  replace F3 := hid (F3.out.keep hx)
  clear hx o0 o1 o2 o3
  have g0 := F1.out.cell 0
  have g1 := F1.out.cell 1
  have g2 := F1.out.cell 2
  go_upto_region 6 with fail
  refine Code.wp_mono (Q := fun e a w' => e = .normal ∧ ∃ (g gx : Nat) (A1 : Option Addr) (c1 : Nat), a = ⟨#[.agg #[.slice NA n nc, .slice DA m dc, .slice SA q sc], .agg #[.int .i64 1, .string nn, .string tt, .string xx], .pointer (some ⟨w.heap.size, 0, none⟩), .pointer (some ⟨w.heap.size + 1, 0, none⟩), .pointer (some ⟨w.heap.size + 1 + 1, 0, none⟩), .int .i64 0, .int .i64 0, .pointer (some ⟨g, 0, none⟩), undef, .agg #[.slice NA n nc, .slice DA m dc, .slice SA q sc], .int .i64 0, .int .i64 0, .bool true, .agg #[.int .i64 1, .string nn, .string tt, .string xx], .int .i64 0, .int .i64 0, .bool false, undef, undef, .slice (some ⟨gx, 0, none⟩) 0 0, .pointer (some ⟨w.heap.size, 0, none⟩), .slice NA n nc, .slice A1 n c1, .pointer (some ⟨w.heap.size, 1, none⟩), .slice DA m dc, .pointer (some ⟨w.heap.size, 2, none⟩), .slice SA q sc, .agg #[.slice A1 n c1, .slice DA m dc, .slice SA q sc], undef, undef, undef, undef, undef, undef, undef, undef, undef, undef, undef, undef, undef, undef, undef, undef, undef, undef, undef, undef, undef, undef, undef, undef, undef, undef, undef, undef, undef, undef, undef, undef, undef, undef, undef, undef, undef, undef, undef, undef, undef, undef, undef, undef, undef, undef, undef, undef, undef, undef, undef, undef, undef, undef, undef, undef, undef, undef, undef, undef, undef, undef, undef, undef, undef, undef, undef, undef, undef, undef, undef, undef, undef, undef, undef, undef, undef, undef, undef, undef, undef, undef, undef, undef, undef, undef, undef, undef], []⟩ ∧ Hid (Ext w2 w') ∧ Hid (w2.heap.size ≤ g) ∧ Hid (Blk w' g 25 #[.slice A1 n c1, .slice DA m dc, .slice SA q sc]) ∧ Hid (w'.ownsRow w2.heap.size 49 2 (.slice A1 n c1) n (nds f.1))) ?_ ?_
  rotate_left
  · have g0r := cell_regrown g0
    have g1r := cell_regrown g1
    have g2r := cell_regrown g2
    refine wp_region_tree (.one 1 true (.one 2 true (.one 4 true (.one 5 true (.one 6 true (.one 7 true (.two 0 9 (.two 3 9 (.one 8 true (.one 9 false (.one 10 false (.nil)))) (.one 3 false (.one 8 true (.one 10 false (.nil))))) (.one 0 false (.one 3 false (.one 8 true (.one 10 false (.nil)))))))))))) (by kernel_rfl) (by kernel_rfl) (by rintro _ _ _ _ _ ⟨h, _⟩; cases h) (by kernel_rfl) (by rfl) ?_
    simp only [fillT, List.getD_cons_zero, List.getD_cons_succ]
    have Y0 : Ext w2 w2.drew := (ext_refl w2).draw
    generalize w2.drew = y0 at Y0 ⊢
    repeat (refine wpTO_val (by rfl) ?_; intro K hK; go_big_quiet_op; go_big_quiet_on)
    refine wpTO_two ?_ ?_
    · refine wpTO_do (by rfl) ?_
      intro K hK
      go_simp
      have O1 : (y0.alloc (.cells #[] 49)).ownsRow w2.heap.size 49 2 (.slice (some ⟨y0.heap.size, 0, none⟩) 0 0) 0 (nds []) := own_new (C := #[]) rfl rfl (Y0).size (Nat.zero_le _)
      have Y1 := Ext.new Y0 (.cells #[] 49)
      generalize y0.alloc (.cells #[] 49) = y1 at *
      generalize y0.heap.size = gx at *
      refine hK _ _ Y1 ?_
      clear K hK
      refine wpTO_two ?_ ?_
      · refine wpTO_do (by rfl) ?_
        intro K hK
        refine wp_app (.tmp 19) (.tmp 21) rowNo rfl _ 0 (nds []) rfl O1 _ n (nds f.1) rfl (Src.rd Tryd.underlying22 _ n nc _ (by rw [nds_len, HN.out]) (HR1.out.keep (XZ.out.then Y1)) (nds_one _) HZ1.out) (by have := HL24.out; simp only [maxLen] at *; omega) (by have := HL24.out; omega) (Y1).size ?_
        intro v' y2 hown9 hgrow hat hbel
        rw [Nat.zero_add] at hown9
        have Y2 : Ext w2 y2 := Below.trans Y1 hbel
        clear O1
        have O1 : y2.ownsRow w2.heap.size 49 2 v' n (nds f.1) := hown9
        clear hown9
        obtain ⟨A1, c1, rfl, _, _, _, _⟩ := Rd.owned O1
        refine hK _ _ Y2 ?_
        clear K hK hgrow hat hbel
        simp only [Act.put, List.setIfInBounds_toArray, List.set_cons_zero, List.set_cons_succ]
        repeat (refine wpTO_val (by rfl) ?_; intro K hK; go_big_quiet_op; go_big_quiet_on)
        refine wpTO_do (by rfl) ?_
        intro K hK
        go_simp
        replace O1 := own_ext O1 (Ext.new (ext_refl y2) (.cells #[.slice none 0 0, .slice none 0 0, .slice none 0 0] 25))
        have BG := Blk.new y2 25 #[.slice none 0 0, .slice none 0 0, .slice none 0 0]
        have Y3 := Ext.new Y2 (.cells #[.slice none 0 0, .slice none 0 0, .slice none 0 0] 25)
        have hgs := (Y2).size
        obtain ⟨g, hg⟩ : ∃ g, g = (y2 : World).heap.size := ⟨_, rfl⟩
        rw [← hg] at BG hgs ⊢
        generalize (y2 : World).alloc (.cells #[.slice none 0 0, .slice none 0 0, .slice none 0 0] 25) = y3 at *
        refine hK _ _ Y3 ?_
        clear K hK hg
        have q0 := BG.cell 0
        have q1 := BG.cell 1
        have q2 := BG.cell 2
        have f0 := BG.frozen 0
        have f1 := BG.frozen 1
        have f2 := BG.frozen 2
        refine wpTO_do (by rfl) ?_
        intro K hK
        go_simp
        refine hK _ _ (Ext.put (Ext.put (Ext.put Y3 (p := ⟨g, 0, none⟩) hgs (.slice A1 n c1)) (p := ⟨g, 1, none⟩) hgs (.slice DA m dc)) (p := ⟨g, 2, none⟩) hgs (.slice SA q sc)) ?_
        clear K hK
        refine wpTO_nil ?_
        refine ⟨rfl, g, gx, A1, c1, rfl, hid (Ext.put (Ext.put (Ext.put Y3 (p := ⟨g, 0, none⟩) hgs (.slice A1 n c1)) (p := ⟨g, 1, none⟩) hgs (.slice DA m dc)) (p := ⟨g, 2, none⟩) hgs (.slice SA q sc)), hid hgs, hid ((((BG.set 0 (.slice A1 n c1)).set 1 (.slice DA m dc)).set 2 (.slice SA q sc)).cast (by simp)), hid ?_⟩
        exact own_put (own_put (own_put O1 (p := ⟨g, 0, none⟩) (own_nblk O1 BG (by decide)) _) (p := ⟨g, 1, none⟩) (own_nblk O1 BG (by decide)) _) (p := ⟨g, 2, none⟩) (own_nblk O1 BG (by decide)) _
      · refine wpTO_do (by rfl) ?_
        intro K hK
        go_simp
        replace O1 := own_ext O1 (Ext.new (ext_refl y1) (.cells #[.slice none 0 0, .slice none 0 0, .slice none 0 0] 25))
        have BG := Blk.new y1 25 #[.slice none 0 0, .slice none 0 0, .slice none 0 0]
        have Y4 := Ext.new Y1 (.cells #[.slice none 0 0, .slice none 0 0, .slice none 0 0] 25)
        have hgs := (Y1).size
        obtain ⟨g, hg⟩ : ∃ g, g = (y1 : World).heap.size := ⟨_, rfl⟩
        rw [← hg] at BG hgs ⊢
        generalize (y1 : World).alloc (.cells #[.slice none 0 0, .slice none 0 0, .slice none 0 0] 25) = y4 at *
        refine hK _ _ Y4 ?_
        clear K hK hg
        refine wpTO_do (by rfl) ?_
        intro K hK
        refine wp_app (.tmp 19) (.tmp 21) rowNo rfl _ 0 (nds []) rfl O1 _ n (nds f.1) rfl (Src.rd Tryd.underlying22 _ n nc _ (by rw [nds_len, HN.out]) (HR1.out.keep (XZ.out.then Y4)) (nds_one _) HZ1.out) (by have := HL24.out; simp only [maxLen] at *; omega) (by have := HL24.out; omega) (Y4).size ?_
        intro v' y5 hown9 hgrow hat hbel
        rw [Nat.zero_add] at hown9
        have Y5 : Ext w2 y5 := Below.trans Y4 hbel
        replace BG := Blk.grown BG hgrow (own_nblk O1 BG (by decide))
        clear O1
        have O1 : y5.ownsRow w2.heap.size 49 2 v' n (nds f.1) := hown9
        clear hown9
        obtain ⟨A1, c1, rfl, _, _, _, _⟩ := Rd.owned O1
        refine hK _ _ Y5 ?_
        clear K hK hgrow hat hbel
        simp only [Act.put, List.setIfInBounds_toArray, List.set_cons_zero, List.set_cons_succ]
        repeat (refine wpTO_val (by rfl) ?_; intro K hK; go_big_quiet_op; go_big_quiet_on)
        have q0 := BG.cell 0
        have q1 := BG.cell 1
        have q2 := BG.cell 2
        have f0 := BG.frozen 0
        have f1 := BG.frozen 1
        have f2 := BG.frozen 2
        refine wpTO_do (by rfl) ?_
        intro K hK
        go_simp
        refine hK _ _ (Ext.put (Ext.put (Ext.put Y5 (p := ⟨g, 0, none⟩) hgs (.slice A1 n c1)) (p := ⟨g, 1, none⟩) hgs (.slice DA m dc)) (p := ⟨g, 2, none⟩) hgs (.slice SA q sc)) ?_
        clear K hK
        refine wpTO_nil ?_
        refine ⟨rfl, g, gx, A1, c1, rfl, hid (Ext.put (Ext.put (Ext.put Y5 (p := ⟨g, 0, none⟩) hgs (.slice A1 n c1)) (p := ⟨g, 1, none⟩) hgs (.slice DA m dc)) (p := ⟨g, 2, none⟩) hgs (.slice SA q sc)), hid hgs, hid ((((BG.set 0 (.slice A1 n c1)).set 1 (.slice DA m dc)).set 2 (.slice SA q sc)).cast (by simp)), hid ?_⟩
        exact own_put (own_put (own_put O1 (p := ⟨g, 0, none⟩) (own_nblk O1 BG (by decide)) _) (p := ⟨g, 1, none⟩) (own_nblk O1 BG (by decide)) _) (p := ⟨g, 2, none⟩) (own_nblk O1 BG (by decide)) _
    · refine wpTO_do (by rfl) ?_
      intro K hK
      go_simp
      have BG := Blk.new y0 25 #[.slice none 0 0, .slice none 0 0, .slice none 0 0]
      have Y6 := Ext.new Y0 (.cells #[.slice none 0 0, .slice none 0 0, .slice none 0 0] 25)
      have hgs := (Y0).size
      obtain ⟨g, hg⟩ : ∃ g, g = (y0 : World).heap.size := ⟨_, rfl⟩
      rw [← hg] at BG hgs ⊢
      generalize (y0 : World).alloc (.cells #[.slice none 0 0, .slice none 0 0, .slice none 0 0] 25) = y6 at *
      refine hK _ _ Y6 ?_
      clear K hK hg
      refine wpTO_do (by rfl) ?_
      intro K hK
      go_simp
      replace BG := Blk.keep BG (Ext.new (ext_refl y6) (.cells #[] 49))
      have O1 : (y6.alloc (.cells #[] 49)).ownsRow w2.heap.size 49 2 (.slice (some ⟨y6.heap.size, 0, none⟩) 0 0) 0 (nds []) := own_new (C := #[]) rfl rfl (Y6).size (Nat.zero_le _)
      have Y7 := Ext.new Y6 (.cells #[] 49)
      generalize y6.alloc (.cells #[] 49) = y7 at *
      generalize y6.heap.size = gx at *
      refine hK _ _ Y7 ?_
      clear K hK
      refine wpTO_do (by rfl) ?_
      intro K hK
      refine wp_app (.tmp 19) (.tmp 21) rowNo rfl _ 0 (nds []) rfl O1 _ n (nds f.1) rfl (Src.rd Tryd.underlying22 _ n nc _ (by rw [nds_len, HN.out]) (HR1.out.keep (XZ.out.then Y7)) (nds_one _) HZ1.out) (by have := HL24.out; simp only [maxLen] at *; omega) (by have := HL24.out; omega) (Y7).size ?_
      intro v' y8 hown9 hgrow hat hbel
      rw [Nat.zero_add] at hown9
      have Y8 : Ext w2 y8 := Below.trans Y7 hbel
      replace BG := Blk.grown BG hgrow (own_nblk O1 BG (by decide))
      clear O1
      have O1 : y8.ownsRow w2.heap.size 49 2 v' n (nds f.1) := hown9
      clear hown9
      obtain ⟨A1, c1, rfl, _, _, _, _⟩ := Rd.owned O1
      refine hK _ _ Y8 ?_
      clear K hK hgrow hat hbel
      simp only [Act.put, List.setIfInBounds_toArray, List.set_cons_zero, List.set_cons_succ]
      repeat (refine wpTO_val (by rfl) ?_; intro K hK; go_big_quiet_op; go_big_quiet_on)
      have q0 := BG.cell 0
      have q1 := BG.cell 1
      have q2 := BG.cell 2
      have f0 := BG.frozen 0
      have f1 := BG.frozen 1
      have f2 := BG.frozen 2
      refine wpTO_do (by rfl) ?_
      intro K hK
      go_simp
      refine hK _ _ (Ext.put (Ext.put (Ext.put Y8 (p := ⟨g, 0, none⟩) hgs (.slice A1 n c1)) (p := ⟨g, 1, none⟩) hgs (.slice DA m dc)) (p := ⟨g, 2, none⟩) hgs (.slice SA q sc)) ?_
      clear K hK
      refine wpTO_nil ?_
      refine ⟨rfl, g, gx, A1, c1, rfl, hid (Ext.put (Ext.put (Ext.put Y8 (p := ⟨g, 0, none⟩) hgs (.slice A1 n c1)) (p := ⟨g, 1, none⟩) hgs (.slice DA m dc)) (p := ⟨g, 2, none⟩) hgs (.slice SA q sc)), hid hgs, hid ((((BG.set 0 (.slice A1 n c1)).set 1 (.slice DA m dc)).set 2 (.slice SA q sc)).cast (by simp)), hid ?_⟩
      exact own_put (own_put (own_put O1 (p := ⟨g, 0, none⟩) (own_nblk O1 BG (by decide)) _) (p := ⟨g, 1, none⟩) (own_nblk O1 BG (by decide)) _) (p := ⟨g, 2, none⟩) (own_nblk O1 BG (by decide)) _

  rintro e a y ⟨rfl, g, gx, A1, c1, rfl, XY, HGS, BG, O1⟩
  have HWS := hid (show w.heap.size + 3 ≤ w2.heap.size by have := F3.out.lt; omega)
  replace HGS := hid (show w.heap.size + 3 ≤ g from Nat.le_trans HWS.out HGS.out)
  replace O1 := hid (own_low' O1.out HWS.out)
  replace F1 := hid (F1.out.keep XY.out)
  replace F2 := hid (F2.out.keep XY.out)
  replace F3 := hid (F3.out.keep XY.out)
  replace XZ : Hid (Ext w y) := hid (XZ.out.then XY.out)
  replace HWS := hid (show w.heap.size + 3 ≤ y.heap.size from Nat.le_trans HWS.out XY.out.size)
  clear XY g0 g1 g2
  have g0 := F1.out.cell 0
  have g1 := F1.out.cell 1
  have g2 := F1.out.cell 2
  have o0 := F2.out.cell 0
  have o1 := F2.out.cell 1
  have o2 := F2.out.cell 2
  have o3 := F2.out.cell 3
  have u0 := BG.out.cell 0
  have u1 := BG.out.cell 1
  have u2 := BG.out.cell 2
  have t0 := F3.out.cell 0
  have t1 := F3.out.cell 1
  have t2 := F3.out.cell 2
  have x0 := F3.out.frozen 0
  have x1 := F3.out.frozen 1
  have x2 := F3.out.frozen 2
  go_wp2_with (go_at_call 43; refine (HND.out _ XZ.out).mono ?_; rintro e w4 ⟨rfl, rfl⟩)
  have z0 := F3.out.cell 0
  have z1 := F3.out.cell 1
  have z2 := F3.out.cell 2
  have y0 := F3.out.frozen 0
  have y1 := F3.out.frozen 1
  have y2 := F3.out.frozen 2
  go_wp2
  have HBF := hid ((((F3.out.set 0 (.slice none 0 0)).set 1 (.slice none 0 0)).set 2 (.slice none 0 0)).cast (cs' := #[.slice none 0 0, .slice none 0 0, .slice none 0 0]) (by simp))
  have XF := hid (Ext.put (Ext.put (Ext.put XZ.out (p := ⟨w.heap.size + 1 + 1, 0, none⟩) (by simp only; omega) (.slice none 0 0)) (p := ⟨w.heap.size + 1 + 1, 1, none⟩) (by simp only; omega) (.slice none 0 0)) (p := ⟨w.heap.size + 1 + 1, 2, none⟩) (by simp only; omega) (.slice none 0 0))
  refine bodyPost_ret (results_blk2 rfl _ _ (w.heap.size + 1 + 1) 25 _ _ rfl HBF.out Tryd.underlying25 rfl (by kernel_rfl)) rfl ?_
  exact ⟨_, by rw [HR.out]; rfl, by rw [HR.out]; exact fs0_P _ _, XF.out⟩
set_option maxHeartbeats 3200000 in
set_option maxRecDepth 100000 in
theorem doneOf_k2n (p : Nat → Prop) (f : Fs.FSy) (nn tt xx : ByteArray) (v : Value) (w : World) (hv : FsP p w v f) (hp : ∀ b, w.heap.size ≤ b → p b) (hb : Fs.FsB f) (h : Fs.Ok f) (hs : nn.size ≤ 140737488355328) (ht : tt.size ≤ 140737488355328) (hx : xx.size ≤ 140737488355328) (hc : Fs.opck (2, nn, tt, xx) = 0) (hs' : Fs.nof f.2.1 nn < 0) :
    Calls Tryd.prog 16 #[v, .agg #[.int .i64 2, .string nn, .string tt, .string xx]] w fun e w' => ∃ v', e = .returned (.tuple #[v', .int .i64 ((Fs.raw f (2, nn, tt, xx)).2 : Nat)]) ∧ FsP p w' v' (Fs.raw f (2, nn, tt, xx)).1 ∧ Ext w w' := by
  have HCK := hid (fun wx (hx : Ext w wx) => fsCheck_V f v wx (hv.V.keep hx) hb)
  obtain ⟨NA, nc, DA, dc, SA, sc, rfl, ⟨h1, h2, h3, z1, z2, z3⟩, k1, k2, k3⟩ := hv
  obtain ⟨n, hn⟩ : ∃ n, n = f.1.length := ⟨_, rfl⟩
  obtain ⟨m, hm⟩ : ∃ n, n = f.2.1.length := ⟨_, rfl⟩
  obtain ⟨q, hq⟩ : ∃ n, n = f.2.2.length := ⟨_, rfl⟩
  rw [← hn, ← hm, ← hq] at HCK ⊢
  rw [← hn] at k1 z1
  rw [← hm] at k2 z2
  rw [← hq] at k3 z3
  have HN := hid hn; have HM := hid hm; have HQ := hid hq
  have HR1 := hid h1; have HR2 := hid h2; have HR3 := hid h3
  have HK1 := hid k1; have HK2 := hid k2; have HK3 := hid k3
  have HZ1 := hid z1; have HZ2 := hid z2; have HZ3 := hid z3
  have HP := hid hp
  have HFM := hid (fun wx => opCheck_any 2 nn tt xx wx hs ht hx)
  rw [hc] at HFM
  have h0 := Fs.ok_iff.2 h
  rw [h0] at HCK
  have h24 := h.few
  have hmn := Fs.good_len h.dir
  have hqn := Fs.good_len h.syn
  have HOK := hid h
  have HOP := hid hc
  have HL24 := hid (show n ≤ 24 by omega)
  have HM24 := hid (show m ≤ 24 by omega)
  have HQ24 := hid (show q ≤ 24 by omega)
  have HND := hid (fun wx (hx : Ext w wx) => nodeOf_any f.2.1 nn DA m dc wx hm.symm (h2.keep hx) (by omega))
  have hnI : (n : Int) ≤ 24 := by omega
  have hmI : (m : Int) ≤ 24 := by omega
  have hj : Fs.nof f.2.1 nn = -1 := by have := Fs.nof_rng (Fs.dir_iff.2 h.dir) nn; omega
  rw [hj] at HND
  have HR := hid (show Fs.raw f (2, nn, tt, xx) = (Fs.fs0, 5) by unfold Fs.raw; simp only; rw [if_neg (by decide), if_neg (by decide), if_pos hs'])
  clear hb h1 h2 h3 k1 k2 k3 z1 z2 z3 hp hn hm hq h hs ht hx hc h0 h24 hmn hqn hs' hj
  go_enter Tryd.func16, Tryd.ntmps16
  go_upto_region 1 with fail
  refine wp_gen (fun w' => Ext w w' ∧ Blk w' w.heap.size 25 #[.slice NA n nc, .slice DA m dc, .slice SA q sc] ∧ Blk w' (w.heap.size + 1) 27 #[.int .i64 2, .string nn, .string tt, .string xx] ∧ Blk w' (w.heap.size + 1 + 1) 25 #[.slice none 0 0, .slice none 0 0, .slice none 0 0]) ⟨(((ext_refl _).new _).new _).new _, ((Blk.new _ _ _).alloc _).alloc _, (Blk.newAt (by simp)).alloc _, Blk.newAt (by simp)⟩ ?_
  rintro wz ⟨B0, B1, B2, B3⟩
  have XZ : Hid (Ext w wz) := hid B0
  have F1 := hid B1
  have F2 := hid B2
  have F3 := hid B3
  have p0 := B1.cell 0
  have p1 := B1.cell 1
  have p2 := B1.cell 2
  clear B0 B1 B2 B3
  go_wp2_with fail
  refine Calls.mono (HCK.out _ XZ.out) ?_
  rintro e w1 ⟨rfl, hx⟩
  replace XZ : Hid (Ext w w1) := hid (XZ.out.then hx)
  replace F1 := hid (F1.out.keep hx)
  replace F2 := hid (F2.out.keep hx)
  replace F3 := hid (F3.out.keep hx)
  clear hx p0 p1 p2
  have o0 := F2.out.cell 0
  have o1 := F2.out.cell 1
  have o2 := F2.out.cell 2
  have o3 := F2.out.cell 3
  go_wp2_with fail
  refine Calls.mono (HFM.out _) ?_
  rintro e w2 ⟨rfl, hx⟩
  replace XZ : Hid (Ext w w2) := hid (XZ.out.then hx)
  replace F1 := hid (F1.out.keep hx)
  replace F2 := hid (F2.out.keep hx)
  replace F3 := hid (F3.out.keep hx)
  clear hx o0 o1 o2 o3
  have g0 := F1.out.cell 0
  have g1 := F1.out.cell 1
  have g2 := F1.out.cell 2
  go_upto_region 6 with fail
  refine Code.wp_mono (Q := fun e a w' => e = .normal ∧ ∃ (g gx : Nat) (A1 : Option Addr) (c1 : Nat), a = ⟨#[.agg #[.slice NA n nc, .slice DA m dc, .slice SA q sc], .agg #[.int .i64 2, .string nn, .string tt, .string xx], .pointer (some ⟨w.heap.size, 0, none⟩), .pointer (some ⟨w.heap.size + 1, 0, none⟩), .pointer (some ⟨w.heap.size + 1 + 1, 0, none⟩), .int .i64 0, .int .i64 0, .pointer (some ⟨g, 0, none⟩), undef, .agg #[.slice NA n nc, .slice DA m dc, .slice SA q sc], .int .i64 0, .int .i64 0, .bool true, .agg #[.int .i64 2, .string nn, .string tt, .string xx], .int .i64 0, .int .i64 0, .bool false, undef, undef, .slice (some ⟨gx, 0, none⟩) 0 0, .pointer (some ⟨w.heap.size, 0, none⟩), .slice NA n nc, .slice A1 n c1, .pointer (some ⟨w.heap.size, 1, none⟩), .slice DA m dc, .pointer (some ⟨w.heap.size, 2, none⟩), .slice SA q sc, .agg #[.slice A1 n c1, .slice DA m dc, .slice SA q sc], undef, undef, undef, undef, undef, undef, undef, undef, undef, undef, undef, undef, undef, undef, undef, undef, undef, undef, undef, undef, undef, undef, undef, undef, undef, undef, undef, undef, undef, undef, undef, undef, undef, undef, undef, undef, undef, undef, undef, undef, undef, undef, undef, undef, undef, undef, undef, undef, undef, undef, undef, undef, undef, undef, undef, undef, undef, undef, undef, undef, undef, undef, undef, undef, undef, undef, undef, undef, undef, undef, undef, undef, undef, undef, undef, undef, undef, undef, undef, undef, undef, undef, undef, undef, undef, undef, undef, undef], []⟩ ∧ Hid (Ext w2 w') ∧ Hid (w2.heap.size ≤ g) ∧ Hid (Blk w' g 25 #[.slice A1 n c1, .slice DA m dc, .slice SA q sc]) ∧ Hid (w'.ownsRow w2.heap.size 49 2 (.slice A1 n c1) n (nds f.1))) ?_ ?_
  rotate_left
  · have g0r := cell_regrown g0
    have g1r := cell_regrown g1
    have g2r := cell_regrown g2
    refine wp_region_tree (.one 1 true (.one 2 true (.one 4 true (.one 5 true (.one 6 true (.one 7 true (.two 0 9 (.two 3 9 (.one 8 true (.one 9 false (.one 10 false (.nil)))) (.one 3 false (.one 8 true (.one 10 false (.nil))))) (.one 0 false (.one 3 false (.one 8 true (.one 10 false (.nil)))))))))))) (by kernel_rfl) (by kernel_rfl) (by rintro _ _ _ _ _ ⟨h, _⟩; cases h) (by kernel_rfl) (by rfl) ?_
    simp only [fillT, List.getD_cons_zero, List.getD_cons_succ]
    have Y0 : Ext w2 w2.drew := (ext_refl w2).draw
    generalize w2.drew = y0 at Y0 ⊢
    repeat (refine wpTO_val (by rfl) ?_; intro K hK; go_big_quiet_op; go_big_quiet_on)
    refine wpTO_two ?_ ?_
    · refine wpTO_do (by rfl) ?_
      intro K hK
      go_simp
      have O1 : (y0.alloc (.cells #[] 49)).ownsRow w2.heap.size 49 2 (.slice (some ⟨y0.heap.size, 0, none⟩) 0 0) 0 (nds []) := own_new (C := #[]) rfl rfl (Y0).size (Nat.zero_le _)
      have Y1 := Ext.new Y0 (.cells #[] 49)
      generalize y0.alloc (.cells #[] 49) = y1 at *
      generalize y0.heap.size = gx at *
      refine hK _ _ Y1 ?_
      clear K hK
      refine wpTO_two ?_ ?_
      · refine wpTO_do (by rfl) ?_
        intro K hK
        refine wp_app (.tmp 19) (.tmp 21) rowNo rfl _ 0 (nds []) rfl O1 _ n (nds f.1) rfl (Src.rd Tryd.underlying22 _ n nc _ (by rw [nds_len, HN.out]) (HR1.out.keep (XZ.out.then Y1)) (nds_one _) HZ1.out) (by have := HL24.out; simp only [maxLen] at *; omega) (by have := HL24.out; omega) (Y1).size ?_
        intro v' y2 hown9 hgrow hat hbel
        rw [Nat.zero_add] at hown9
        have Y2 : Ext w2 y2 := Below.trans Y1 hbel
        clear O1
        have O1 : y2.ownsRow w2.heap.size 49 2 v' n (nds f.1) := hown9
        clear hown9
        obtain ⟨A1, c1, rfl, _, _, _, _⟩ := Rd.owned O1
        refine hK _ _ Y2 ?_
        clear K hK hgrow hat hbel
        simp only [Act.put, List.setIfInBounds_toArray, List.set_cons_zero, List.set_cons_succ]
        repeat (refine wpTO_val (by rfl) ?_; intro K hK; go_big_quiet_op; go_big_quiet_on)
        refine wpTO_do (by rfl) ?_
        intro K hK
        go_simp
        replace O1 := own_ext O1 (Ext.new (ext_refl y2) (.cells #[.slice none 0 0, .slice none 0 0, .slice none 0 0] 25))
        have BG := Blk.new y2 25 #[.slice none 0 0, .slice none 0 0, .slice none 0 0]
        have Y3 := Ext.new Y2 (.cells #[.slice none 0 0, .slice none 0 0, .slice none 0 0] 25)
        have hgs := (Y2).size
        obtain ⟨g, hg⟩ : ∃ g, g = (y2 : World).heap.size := ⟨_, rfl⟩
        rw [← hg] at BG hgs ⊢
        generalize (y2 : World).alloc (.cells #[.slice none 0 0, .slice none 0 0, .slice none 0 0] 25) = y3 at *
        refine hK _ _ Y3 ?_
        clear K hK hg
        have q0 := BG.cell 0
        have q1 := BG.cell 1
        have q2 := BG.cell 2
        have f0 := BG.frozen 0
        have f1 := BG.frozen 1
        have f2 := BG.frozen 2
        refine wpTO_do (by rfl) ?_
        intro K hK
        go_simp
        refine hK _ _ (Ext.put (Ext.put (Ext.put Y3 (p := ⟨g, 0, none⟩) hgs (.slice A1 n c1)) (p := ⟨g, 1, none⟩) hgs (.slice DA m dc)) (p := ⟨g, 2, none⟩) hgs (.slice SA q sc)) ?_
        clear K hK
        refine wpTO_nil ?_
        refine ⟨rfl, g, gx, A1, c1, rfl, hid (Ext.put (Ext.put (Ext.put Y3 (p := ⟨g, 0, none⟩) hgs (.slice A1 n c1)) (p := ⟨g, 1, none⟩) hgs (.slice DA m dc)) (p := ⟨g, 2, none⟩) hgs (.slice SA q sc)), hid hgs, hid ((((BG.set 0 (.slice A1 n c1)).set 1 (.slice DA m dc)).set 2 (.slice SA q sc)).cast (by simp)), hid ?_⟩
        exact own_put (own_put (own_put O1 (p := ⟨g, 0, none⟩) (own_nblk O1 BG (by decide)) _) (p := ⟨g, 1, none⟩) (own_nblk O1 BG (by decide)) _) (p := ⟨g, 2, none⟩) (own_nblk O1 BG (by decide)) _
      · refine wpTO_do (by rfl) ?_
        intro K hK
        go_simp
        replace O1 := own_ext O1 (Ext.new (ext_refl y1) (.cells #[.slice none 0 0, .slice none 0 0, .slice none 0 0] 25))
        have BG := Blk.new y1 25 #[.slice none 0 0, .slice none 0 0, .slice none 0 0]
        have Y4 := Ext.new Y1 (.cells #[.slice none 0 0, .slice none 0 0, .slice none 0 0] 25)
        have hgs := (Y1).size
        obtain ⟨g, hg⟩ : ∃ g, g = (y1 : World).heap.size := ⟨_, rfl⟩
        rw [← hg] at BG hgs ⊢
        generalize (y1 : World).alloc (.cells #[.slice none 0 0, .slice none 0 0, .slice none 0 0] 25) = y4 at *
        refine hK _ _ Y4 ?_
        clear K hK hg
        refine wpTO_do (by rfl) ?_
        intro K hK
        refine wp_app (.tmp 19) (.tmp 21) rowNo rfl _ 0 (nds []) rfl O1 _ n (nds f.1) rfl (Src.rd Tryd.underlying22 _ n nc _ (by rw [nds_len, HN.out]) (HR1.out.keep (XZ.out.then Y4)) (nds_one _) HZ1.out) (by have := HL24.out; simp only [maxLen] at *; omega) (by have := HL24.out; omega) (Y4).size ?_
        intro v' y5 hown9 hgrow hat hbel
        rw [Nat.zero_add] at hown9
        have Y5 : Ext w2 y5 := Below.trans Y4 hbel
        replace BG := Blk.grown BG hgrow (own_nblk O1 BG (by decide))
        clear O1
        have O1 : y5.ownsRow w2.heap.size 49 2 v' n (nds f.1) := hown9
        clear hown9
        obtain ⟨A1, c1, rfl, _, _, _, _⟩ := Rd.owned O1
        refine hK _ _ Y5 ?_
        clear K hK hgrow hat hbel
        simp only [Act.put, List.setIfInBounds_toArray, List.set_cons_zero, List.set_cons_succ]
        repeat (refine wpTO_val (by rfl) ?_; intro K hK; go_big_quiet_op; go_big_quiet_on)
        have q0 := BG.cell 0
        have q1 := BG.cell 1
        have q2 := BG.cell 2
        have f0 := BG.frozen 0
        have f1 := BG.frozen 1
        have f2 := BG.frozen 2
        refine wpTO_do (by rfl) ?_
        intro K hK
        go_simp
        refine hK _ _ (Ext.put (Ext.put (Ext.put Y5 (p := ⟨g, 0, none⟩) hgs (.slice A1 n c1)) (p := ⟨g, 1, none⟩) hgs (.slice DA m dc)) (p := ⟨g, 2, none⟩) hgs (.slice SA q sc)) ?_
        clear K hK
        refine wpTO_nil ?_
        refine ⟨rfl, g, gx, A1, c1, rfl, hid (Ext.put (Ext.put (Ext.put Y5 (p := ⟨g, 0, none⟩) hgs (.slice A1 n c1)) (p := ⟨g, 1, none⟩) hgs (.slice DA m dc)) (p := ⟨g, 2, none⟩) hgs (.slice SA q sc)), hid hgs, hid ((((BG.set 0 (.slice A1 n c1)).set 1 (.slice DA m dc)).set 2 (.slice SA q sc)).cast (by simp)), hid ?_⟩
        exact own_put (own_put (own_put O1 (p := ⟨g, 0, none⟩) (own_nblk O1 BG (by decide)) _) (p := ⟨g, 1, none⟩) (own_nblk O1 BG (by decide)) _) (p := ⟨g, 2, none⟩) (own_nblk O1 BG (by decide)) _
    · refine wpTO_do (by rfl) ?_
      intro K hK
      go_simp
      have BG := Blk.new y0 25 #[.slice none 0 0, .slice none 0 0, .slice none 0 0]
      have Y6 := Ext.new Y0 (.cells #[.slice none 0 0, .slice none 0 0, .slice none 0 0] 25)
      have hgs := (Y0).size
      obtain ⟨g, hg⟩ : ∃ g, g = (y0 : World).heap.size := ⟨_, rfl⟩
      rw [← hg] at BG hgs ⊢
      generalize (y0 : World).alloc (.cells #[.slice none 0 0, .slice none 0 0, .slice none 0 0] 25) = y6 at *
      refine hK _ _ Y6 ?_
      clear K hK hg
      refine wpTO_do (by rfl) ?_
      intro K hK
      go_simp
      replace BG := Blk.keep BG (Ext.new (ext_refl y6) (.cells #[] 49))
      have O1 : (y6.alloc (.cells #[] 49)).ownsRow w2.heap.size 49 2 (.slice (some ⟨y6.heap.size, 0, none⟩) 0 0) 0 (nds []) := own_new (C := #[]) rfl rfl (Y6).size (Nat.zero_le _)
      have Y7 := Ext.new Y6 (.cells #[] 49)
      generalize y6.alloc (.cells #[] 49) = y7 at *
      generalize y6.heap.size = gx at *
      refine hK _ _ Y7 ?_
      clear K hK
      refine wpTO_do (by rfl) ?_
      intro K hK
      refine wp_app (.tmp 19) (.tmp 21) rowNo rfl _ 0 (nds []) rfl O1 _ n (nds f.1) rfl (Src.rd Tryd.underlying22 _ n nc _ (by rw [nds_len, HN.out]) (HR1.out.keep (XZ.out.then Y7)) (nds_one _) HZ1.out) (by have := HL24.out; simp only [maxLen] at *; omega) (by have := HL24.out; omega) (Y7).size ?_
      intro v' y8 hown9 hgrow hat hbel
      rw [Nat.zero_add] at hown9
      have Y8 : Ext w2 y8 := Below.trans Y7 hbel
      replace BG := Blk.grown BG hgrow (own_nblk O1 BG (by decide))
      clear O1
      have O1 : y8.ownsRow w2.heap.size 49 2 v' n (nds f.1) := hown9
      clear hown9
      obtain ⟨A1, c1, rfl, _, _, _, _⟩ := Rd.owned O1
      refine hK _ _ Y8 ?_
      clear K hK hgrow hat hbel
      simp only [Act.put, List.setIfInBounds_toArray, List.set_cons_zero, List.set_cons_succ]
      repeat (refine wpTO_val (by rfl) ?_; intro K hK; go_big_quiet_op; go_big_quiet_on)
      have q0 := BG.cell 0
      have q1 := BG.cell 1
      have q2 := BG.cell 2
      have f0 := BG.frozen 0
      have f1 := BG.frozen 1
      have f2 := BG.frozen 2
      refine wpTO_do (by rfl) ?_
      intro K hK
      go_simp
      refine hK _ _ (Ext.put (Ext.put (Ext.put Y8 (p := ⟨g, 0, none⟩) hgs (.slice A1 n c1)) (p := ⟨g, 1, none⟩) hgs (.slice DA m dc)) (p := ⟨g, 2, none⟩) hgs (.slice SA q sc)) ?_
      clear K hK
      refine wpTO_nil ?_
      refine ⟨rfl, g, gx, A1, c1, rfl, hid (Ext.put (Ext.put (Ext.put Y8 (p := ⟨g, 0, none⟩) hgs (.slice A1 n c1)) (p := ⟨g, 1, none⟩) hgs (.slice DA m dc)) (p := ⟨g, 2, none⟩) hgs (.slice SA q sc)), hid hgs, hid ((((BG.set 0 (.slice A1 n c1)).set 1 (.slice DA m dc)).set 2 (.slice SA q sc)).cast (by simp)), hid ?_⟩
      exact own_put (own_put (own_put O1 (p := ⟨g, 0, none⟩) (own_nblk O1 BG (by decide)) _) (p := ⟨g, 1, none⟩) (own_nblk O1 BG (by decide)) _) (p := ⟨g, 2, none⟩) (own_nblk O1 BG (by decide)) _

  rintro e a y ⟨rfl, g, gx, A1, c1, rfl, XY, HGS, BG, O1⟩
  have HWS := hid (show w.heap.size + 3 ≤ w2.heap.size by have := F3.out.lt; omega)
  replace HGS := hid (show w.heap.size + 3 ≤ g from Nat.le_trans HWS.out HGS.out)
  replace O1 := hid (own_low' O1.out HWS.out)
  replace F1 := hid (F1.out.keep XY.out)
  replace F2 := hid (F2.out.keep XY.out)
  replace F3 := hid (F3.out.keep XY.out)
  replace XZ : Hid (Ext w y) := hid (XZ.out.then XY.out)
  replace HWS := hid (show w.heap.size + 3 ≤ y.heap.size from Nat.le_trans HWS.out XY.out.size)
  clear XY g0 g1 g2
  have g0 := F1.out.cell 0
  have g1 := F1.out.cell 1
  have g2 := F1.out.cell 2
  have o0 := F2.out.cell 0
  have o1 := F2.out.cell 1
  have o2 := F2.out.cell 2
  have o3 := F2.out.cell 3
  have u0 := BG.out.cell 0
  have u1 := BG.out.cell 1
  have u2 := BG.out.cell 2
  have t0 := F3.out.cell 0
  have t1 := F3.out.cell 1
  have t2 := F3.out.cell 2
  have x0 := F3.out.frozen 0
  have x1 := F3.out.frozen 1
  have x2 := F3.out.frozen 2
  go_wp2_with (go_at_call 43; refine (HND.out _ XZ.out).mono ?_; rintro e w4 ⟨rfl, rfl⟩)
  have z0 := F3.out.cell 0
  have z1 := F3.out.cell 1
  have z2 := F3.out.cell 2
  have y0 := F3.out.frozen 0
  have y1 := F3.out.frozen 1
  have y2 := F3.out.frozen 2
  go_wp2
  have HBF := hid ((((F3.out.set 0 (.slice none 0 0)).set 1 (.slice none 0 0)).set 2 (.slice none 0 0)).cast (cs' := #[.slice none 0 0, .slice none 0 0, .slice none 0 0]) (by simp))
  have XF := hid (Ext.put (Ext.put (Ext.put XZ.out (p := ⟨w.heap.size + 1 + 1, 0, none⟩) (by simp only; omega) (.slice none 0 0)) (p := ⟨w.heap.size + 1 + 1, 1, none⟩) (by simp only; omega) (.slice none 0 0)) (p := ⟨w.heap.size + 1 + 1, 2, none⟩) (by simp only; omega) (.slice none 0 0))
  refine bodyPost_ret (results_blk2 rfl _ _ (w.heap.size + 1 + 1) 25 _ _ rfl HBF.out Tryd.underlying25 rfl (by kernel_rfl)) rfl ?_
  exact ⟨_, by rw [HR.out]; rfl, by rw [HR.out]; exact fs0_P _ _, XF.out⟩
set_option maxHeartbeats 3200000 in
set_option maxRecDepth 100000 in
theorem doneOf_k3n (p : Nat → Prop) (f : Fs.FSy) (nn tt xx : ByteArray) (v : Value) (w : World) (hv : FsP p w v f) (hp : ∀ b, w.heap.size ≤ b → p b) (hb : Fs.FsB f) (h : Fs.Ok f) (hs : nn.size ≤ 140737488355328) (ht : tt.size ≤ 140737488355328) (hx : xx.size ≤ 140737488355328) (hc : Fs.opck (3, nn, tt, xx) = 0) (hs' : Fs.nof f.2.1 nn < 0) :
    Calls Tryd.prog 16 #[v, .agg #[.int .i64 3, .string nn, .string tt, .string xx]] w fun e w' => ∃ v', e = .returned (.tuple #[v', .int .i64 ((Fs.raw f (3, nn, tt, xx)).2 : Nat)]) ∧ FsP p w' v' (Fs.raw f (3, nn, tt, xx)).1 ∧ Ext w w' := by
  have HCK := hid (fun wx (hx : Ext w wx) => fsCheck_V f v wx (hv.V.keep hx) hb)
  obtain ⟨NA, nc, DA, dc, SA, sc, rfl, ⟨h1, h2, h3, z1, z2, z3⟩, k1, k2, k3⟩ := hv
  obtain ⟨n, hn⟩ : ∃ n, n = f.1.length := ⟨_, rfl⟩
  obtain ⟨m, hm⟩ : ∃ n, n = f.2.1.length := ⟨_, rfl⟩
  obtain ⟨q, hq⟩ : ∃ n, n = f.2.2.length := ⟨_, rfl⟩
  rw [← hn, ← hm, ← hq] at HCK ⊢
  rw [← hn] at k1 z1
  rw [← hm] at k2 z2
  rw [← hq] at k3 z3
  have HN := hid hn; have HM := hid hm; have HQ := hid hq
  have HR1 := hid h1; have HR2 := hid h2; have HR3 := hid h3
  have HK1 := hid k1; have HK2 := hid k2; have HK3 := hid k3
  have HZ1 := hid z1; have HZ2 := hid z2; have HZ3 := hid z3
  have HP := hid hp
  have HFM := hid (fun wx => opCheck_any 3 nn tt xx wx hs ht hx)
  rw [hc] at HFM
  have h0 := Fs.ok_iff.2 h
  rw [h0] at HCK
  have h24 := h.few
  have hmn := Fs.good_len h.dir
  have hqn := Fs.good_len h.syn
  have HOK := hid h
  have HOP := hid hc
  have HL24 := hid (show n ≤ 24 by omega)
  have HM24 := hid (show m ≤ 24 by omega)
  have HQ24 := hid (show q ≤ 24 by omega)
  have HND := hid (fun wx (hx : Ext w wx) => nodeOf_any f.2.1 nn DA m dc wx hm.symm (h2.keep hx) (by omega))
  have hnI : (n : Int) ≤ 24 := by omega
  have hmI : (m : Int) ≤ 24 := by omega
  have hj : Fs.nof f.2.1 nn = -1 := by have := Fs.nof_rng (Fs.dir_iff.2 h.dir) nn; omega
  rw [hj] at HND
  have HR := hid (show Fs.raw f (3, nn, tt, xx) = (Fs.fs0, 5) by unfold Fs.raw; simp only; rw [if_neg (by decide), if_neg (by decide), if_pos hs'])
  clear hb h1 h2 h3 k1 k2 k3 z1 z2 z3 hp hn hm hq h hs ht hx hc h0 h24 hmn hqn hs' hj
  go_enter Tryd.func16, Tryd.ntmps16
  go_upto_region 1 with fail
  refine wp_gen (fun w' => Ext w w' ∧ Blk w' w.heap.size 25 #[.slice NA n nc, .slice DA m dc, .slice SA q sc] ∧ Blk w' (w.heap.size + 1) 27 #[.int .i64 3, .string nn, .string tt, .string xx] ∧ Blk w' (w.heap.size + 1 + 1) 25 #[.slice none 0 0, .slice none 0 0, .slice none 0 0]) ⟨(((ext_refl _).new _).new _).new _, ((Blk.new _ _ _).alloc _).alloc _, (Blk.newAt (by simp)).alloc _, Blk.newAt (by simp)⟩ ?_
  rintro wz ⟨B0, B1, B2, B3⟩
  have XZ : Hid (Ext w wz) := hid B0
  have F1 := hid B1
  have F2 := hid B2
  have F3 := hid B3
  have p0 := B1.cell 0
  have p1 := B1.cell 1
  have p2 := B1.cell 2
  clear B0 B1 B2 B3
  go_wp2_with fail
  refine Calls.mono (HCK.out _ XZ.out) ?_
  rintro e w1 ⟨rfl, hx⟩
  replace XZ : Hid (Ext w w1) := hid (XZ.out.then hx)
  replace F1 := hid (F1.out.keep hx)
  replace F2 := hid (F2.out.keep hx)
  replace F3 := hid (F3.out.keep hx)
  clear hx p0 p1 p2
  have o0 := F2.out.cell 0
  have o1 := F2.out.cell 1
  have o2 := F2.out.cell 2
  have o3 := F2.out.cell 3
  go_wp2_with fail
  refine Calls.mono (HFM.out _) ?_
  rintro e w2 ⟨rfl, hx⟩
  replace XZ : Hid (Ext w w2) := hid (XZ.out.then hx)
  replace F1 := hid (F1.out.keep hx)
  replace F2 := hid (F2.out.keep hx)
  replace F3 := hid (F3.out.keep hx)
  clear hx o0 o1 o2 o3
  have g0 := F1.out.cell 0
  have g1 := F1.out.cell 1
  have g2 := F1.out.cell 2
  go_upto_region 6 with fail
  refine Code.wp_mono (Q := fun e a w' => e = .normal ∧ ∃ (g gx : Nat) (A1 : Option Addr) (c1 : Nat), a = ⟨#[.agg #[.slice NA n nc, .slice DA m dc, .slice SA q sc], .agg #[.int .i64 3, .string nn, .string tt, .string xx], .pointer (some ⟨w.heap.size, 0, none⟩), .pointer (some ⟨w.heap.size + 1, 0, none⟩), .pointer (some ⟨w.heap.size + 1 + 1, 0, none⟩), .int .i64 0, .int .i64 0, .pointer (some ⟨g, 0, none⟩), undef, .agg #[.slice NA n nc, .slice DA m dc, .slice SA q sc], .int .i64 0, .int .i64 0, .bool true, .agg #[.int .i64 3, .string nn, .string tt, .string xx], .int .i64 0, .int .i64 0, .bool false, undef, undef, .slice (some ⟨gx, 0, none⟩) 0 0, .pointer (some ⟨w.heap.size, 0, none⟩), .slice NA n nc, .slice A1 n c1, .pointer (some ⟨w.heap.size, 1, none⟩), .slice DA m dc, .pointer (some ⟨w.heap.size, 2, none⟩), .slice SA q sc, .agg #[.slice A1 n c1, .slice DA m dc, .slice SA q sc], undef, undef, undef, undef, undef, undef, undef, undef, undef, undef, undef, undef, undef, undef, undef, undef, undef, undef, undef, undef, undef, undef, undef, undef, undef, undef, undef, undef, undef, undef, undef, undef, undef, undef, undef, undef, undef, undef, undef, undef, undef, undef, undef, undef, undef, undef, undef, undef, undef, undef, undef, undef, undef, undef, undef, undef, undef, undef, undef, undef, undef, undef, undef, undef, undef, undef, undef, undef, undef, undef, undef, undef, undef, undef, undef, undef, undef, undef, undef, undef, undef, undef, undef, undef, undef, undef, undef, undef], []⟩ ∧ Hid (Ext w2 w') ∧ Hid (w2.heap.size ≤ g) ∧ Hid (Blk w' g 25 #[.slice A1 n c1, .slice DA m dc, .slice SA q sc]) ∧ Hid (w'.ownsRow w2.heap.size 49 2 (.slice A1 n c1) n (nds f.1))) ?_ ?_
  rotate_left
  · have g0r := cell_regrown g0
    have g1r := cell_regrown g1
    have g2r := cell_regrown g2
    refine wp_region_tree (.one 1 true (.one 2 true (.one 4 true (.one 5 true (.one 6 true (.one 7 true (.two 0 9 (.two 3 9 (.one 8 true (.one 9 false (.one 10 false (.nil)))) (.one 3 false (.one 8 true (.one 10 false (.nil))))) (.one 0 false (.one 3 false (.one 8 true (.one 10 false (.nil)))))))))))) (by kernel_rfl) (by kernel_rfl) (by rintro _ _ _ _ _ ⟨h, _⟩; cases h) (by kernel_rfl) (by rfl) ?_
    simp only [fillT, List.getD_cons_zero, List.getD_cons_succ]
    have Y0 : Ext w2 w2.drew := (ext_refl w2).draw
    generalize w2.drew = y0 at Y0 ⊢
    repeat (refine wpTO_val (by rfl) ?_; intro K hK; go_big_quiet_op; go_big_quiet_on)
    refine wpTO_two ?_ ?_
    · refine wpTO_do (by rfl) ?_
      intro K hK
      go_simp
      have O1 : (y0.alloc (.cells #[] 49)).ownsRow w2.heap.size 49 2 (.slice (some ⟨y0.heap.size, 0, none⟩) 0 0) 0 (nds []) := own_new (C := #[]) rfl rfl (Y0).size (Nat.zero_le _)
      have Y1 := Ext.new Y0 (.cells #[] 49)
      generalize y0.alloc (.cells #[] 49) = y1 at *
      generalize y0.heap.size = gx at *
      refine hK _ _ Y1 ?_
      clear K hK
      refine wpTO_two ?_ ?_
      · refine wpTO_do (by rfl) ?_
        intro K hK
        refine wp_app (.tmp 19) (.tmp 21) rowNo rfl _ 0 (nds []) rfl O1 _ n (nds f.1) rfl (Src.rd Tryd.underlying22 _ n nc _ (by rw [nds_len, HN.out]) (HR1.out.keep (XZ.out.then Y1)) (nds_one _) HZ1.out) (by have := HL24.out; simp only [maxLen] at *; omega) (by have := HL24.out; omega) (Y1).size ?_
        intro v' y2 hown9 hgrow hat hbel
        rw [Nat.zero_add] at hown9
        have Y2 : Ext w2 y2 := Below.trans Y1 hbel
        clear O1
        have O1 : y2.ownsRow w2.heap.size 49 2 v' n (nds f.1) := hown9
        clear hown9
        obtain ⟨A1, c1, rfl, _, _, _, _⟩ := Rd.owned O1
        refine hK _ _ Y2 ?_
        clear K hK hgrow hat hbel
        simp only [Act.put, List.setIfInBounds_toArray, List.set_cons_zero, List.set_cons_succ]
        repeat (refine wpTO_val (by rfl) ?_; intro K hK; go_big_quiet_op; go_big_quiet_on)
        refine wpTO_do (by rfl) ?_
        intro K hK
        go_simp
        replace O1 := own_ext O1 (Ext.new (ext_refl y2) (.cells #[.slice none 0 0, .slice none 0 0, .slice none 0 0] 25))
        have BG := Blk.new y2 25 #[.slice none 0 0, .slice none 0 0, .slice none 0 0]
        have Y3 := Ext.new Y2 (.cells #[.slice none 0 0, .slice none 0 0, .slice none 0 0] 25)
        have hgs := (Y2).size
        obtain ⟨g, hg⟩ : ∃ g, g = (y2 : World).heap.size := ⟨_, rfl⟩
        rw [← hg] at BG hgs ⊢
        generalize (y2 : World).alloc (.cells #[.slice none 0 0, .slice none 0 0, .slice none 0 0] 25) = y3 at *
        refine hK _ _ Y3 ?_
        clear K hK hg
        have q0 := BG.cell 0
        have q1 := BG.cell 1
        have q2 := BG.cell 2
        have f0 := BG.frozen 0
        have f1 := BG.frozen 1
        have f2 := BG.frozen 2
        refine wpTO_do (by rfl) ?_
        intro K hK
        go_simp
        refine hK _ _ (Ext.put (Ext.put (Ext.put Y3 (p := ⟨g, 0, none⟩) hgs (.slice A1 n c1)) (p := ⟨g, 1, none⟩) hgs (.slice DA m dc)) (p := ⟨g, 2, none⟩) hgs (.slice SA q sc)) ?_
        clear K hK
        refine wpTO_nil ?_
        refine ⟨rfl, g, gx, A1, c1, rfl, hid (Ext.put (Ext.put (Ext.put Y3 (p := ⟨g, 0, none⟩) hgs (.slice A1 n c1)) (p := ⟨g, 1, none⟩) hgs (.slice DA m dc)) (p := ⟨g, 2, none⟩) hgs (.slice SA q sc)), hid hgs, hid ((((BG.set 0 (.slice A1 n c1)).set 1 (.slice DA m dc)).set 2 (.slice SA q sc)).cast (by simp)), hid ?_⟩
        exact own_put (own_put (own_put O1 (p := ⟨g, 0, none⟩) (own_nblk O1 BG (by decide)) _) (p := ⟨g, 1, none⟩) (own_nblk O1 BG (by decide)) _) (p := ⟨g, 2, none⟩) (own_nblk O1 BG (by decide)) _
      · refine wpTO_do (by rfl) ?_
        intro K hK
        go_simp
        replace O1 := own_ext O1 (Ext.new (ext_refl y1) (.cells #[.slice none 0 0, .slice none 0 0, .slice none 0 0] 25))
        have BG := Blk.new y1 25 #[.slice none 0 0, .slice none 0 0, .slice none 0 0]
        have Y4 := Ext.new Y1 (.cells #[.slice none 0 0, .slice none 0 0, .slice none 0 0] 25)
        have hgs := (Y1).size
        obtain ⟨g, hg⟩ : ∃ g, g = (y1 : World).heap.size := ⟨_, rfl⟩
        rw [← hg] at BG hgs ⊢
        generalize (y1 : World).alloc (.cells #[.slice none 0 0, .slice none 0 0, .slice none 0 0] 25) = y4 at *
        refine hK _ _ Y4 ?_
        clear K hK hg
        refine wpTO_do (by rfl) ?_
        intro K hK
        refine wp_app (.tmp 19) (.tmp 21) rowNo rfl _ 0 (nds []) rfl O1 _ n (nds f.1) rfl (Src.rd Tryd.underlying22 _ n nc _ (by rw [nds_len, HN.out]) (HR1.out.keep (XZ.out.then Y4)) (nds_one _) HZ1.out) (by have := HL24.out; simp only [maxLen] at *; omega) (by have := HL24.out; omega) (Y4).size ?_
        intro v' y5 hown9 hgrow hat hbel
        rw [Nat.zero_add] at hown9
        have Y5 : Ext w2 y5 := Below.trans Y4 hbel
        replace BG := Blk.grown BG hgrow (own_nblk O1 BG (by decide))
        clear O1
        have O1 : y5.ownsRow w2.heap.size 49 2 v' n (nds f.1) := hown9
        clear hown9
        obtain ⟨A1, c1, rfl, _, _, _, _⟩ := Rd.owned O1
        refine hK _ _ Y5 ?_
        clear K hK hgrow hat hbel
        simp only [Act.put, List.setIfInBounds_toArray, List.set_cons_zero, List.set_cons_succ]
        repeat (refine wpTO_val (by rfl) ?_; intro K hK; go_big_quiet_op; go_big_quiet_on)
        have q0 := BG.cell 0
        have q1 := BG.cell 1
        have q2 := BG.cell 2
        have f0 := BG.frozen 0
        have f1 := BG.frozen 1
        have f2 := BG.frozen 2
        refine wpTO_do (by rfl) ?_
        intro K hK
        go_simp
        refine hK _ _ (Ext.put (Ext.put (Ext.put Y5 (p := ⟨g, 0, none⟩) hgs (.slice A1 n c1)) (p := ⟨g, 1, none⟩) hgs (.slice DA m dc)) (p := ⟨g, 2, none⟩) hgs (.slice SA q sc)) ?_
        clear K hK
        refine wpTO_nil ?_
        refine ⟨rfl, g, gx, A1, c1, rfl, hid (Ext.put (Ext.put (Ext.put Y5 (p := ⟨g, 0, none⟩) hgs (.slice A1 n c1)) (p := ⟨g, 1, none⟩) hgs (.slice DA m dc)) (p := ⟨g, 2, none⟩) hgs (.slice SA q sc)), hid hgs, hid ((((BG.set 0 (.slice A1 n c1)).set 1 (.slice DA m dc)).set 2 (.slice SA q sc)).cast (by simp)), hid ?_⟩
        exact own_put (own_put (own_put O1 (p := ⟨g, 0, none⟩) (own_nblk O1 BG (by decide)) _) (p := ⟨g, 1, none⟩) (own_nblk O1 BG (by decide)) _) (p := ⟨g, 2, none⟩) (own_nblk O1 BG (by decide)) _
    · refine wpTO_do (by rfl) ?_
      intro K hK
      go_simp
      have BG := Blk.new y0 25 #[.slice none 0 0, .slice none 0 0, .slice none 0 0]
      have Y6 := Ext.new Y0 (.cells #[.slice none 0 0, .slice none 0 0, .slice none 0 0] 25)
      have hgs := (Y0).size
      obtain ⟨g, hg⟩ : ∃ g, g = (y0 : World).heap.size := ⟨_, rfl⟩
      rw [← hg] at BG hgs ⊢
      generalize (y0 : World).alloc (.cells #[.slice none 0 0, .slice none 0 0, .slice none 0 0] 25) = y6 at *
      refine hK _ _ Y6 ?_
      clear K hK hg
      refine wpTO_do (by rfl) ?_
      intro K hK
      go_simp
      replace BG := Blk.keep BG (Ext.new (ext_refl y6) (.cells #[] 49))
      have O1 : (y6.alloc (.cells #[] 49)).ownsRow w2.heap.size 49 2 (.slice (some ⟨y6.heap.size, 0, none⟩) 0 0) 0 (nds []) := own_new (C := #[]) rfl rfl (Y6).size (Nat.zero_le _)
      have Y7 := Ext.new Y6 (.cells #[] 49)
      generalize y6.alloc (.cells #[] 49) = y7 at *
      generalize y6.heap.size = gx at *
      refine hK _ _ Y7 ?_
      clear K hK
      refine wpTO_do (by rfl) ?_
      intro K hK
      refine wp_app (.tmp 19) (.tmp 21) rowNo rfl _ 0 (nds []) rfl O1 _ n (nds f.1) rfl (Src.rd Tryd.underlying22 _ n nc _ (by rw [nds_len, HN.out]) (HR1.out.keep (XZ.out.then Y7)) (nds_one _) HZ1.out) (by have := HL24.out; simp only [maxLen] at *; omega) (by have := HL24.out; omega) (Y7).size ?_
      intro v' y8 hown9 hgrow hat hbel
      rw [Nat.zero_add] at hown9
      have Y8 : Ext w2 y8 := Below.trans Y7 hbel
      replace BG := Blk.grown BG hgrow (own_nblk O1 BG (by decide))
      clear O1
      have O1 : y8.ownsRow w2.heap.size 49 2 v' n (nds f.1) := hown9
      clear hown9
      obtain ⟨A1, c1, rfl, _, _, _, _⟩ := Rd.owned O1
      refine hK _ _ Y8 ?_
      clear K hK hgrow hat hbel
      simp only [Act.put, List.setIfInBounds_toArray, List.set_cons_zero, List.set_cons_succ]
      repeat (refine wpTO_val (by rfl) ?_; intro K hK; go_big_quiet_op; go_big_quiet_on)
      have q0 := BG.cell 0
      have q1 := BG.cell 1
      have q2 := BG.cell 2
      have f0 := BG.frozen 0
      have f1 := BG.frozen 1
      have f2 := BG.frozen 2
      refine wpTO_do (by rfl) ?_
      intro K hK
      go_simp
      refine hK _ _ (Ext.put (Ext.put (Ext.put Y8 (p := ⟨g, 0, none⟩) hgs (.slice A1 n c1)) (p := ⟨g, 1, none⟩) hgs (.slice DA m dc)) (p := ⟨g, 2, none⟩) hgs (.slice SA q sc)) ?_
      clear K hK
      refine wpTO_nil ?_
      refine ⟨rfl, g, gx, A1, c1, rfl, hid (Ext.put (Ext.put (Ext.put Y8 (p := ⟨g, 0, none⟩) hgs (.slice A1 n c1)) (p := ⟨g, 1, none⟩) hgs (.slice DA m dc)) (p := ⟨g, 2, none⟩) hgs (.slice SA q sc)), hid hgs, hid ((((BG.set 0 (.slice A1 n c1)).set 1 (.slice DA m dc)).set 2 (.slice SA q sc)).cast (by simp)), hid ?_⟩
      exact own_put (own_put (own_put O1 (p := ⟨g, 0, none⟩) (own_nblk O1 BG (by decide)) _) (p := ⟨g, 1, none⟩) (own_nblk O1 BG (by decide)) _) (p := ⟨g, 2, none⟩) (own_nblk O1 BG (by decide)) _

  rintro e a y ⟨rfl, g, gx, A1, c1, rfl, XY, HGS, BG, O1⟩
  have HWS := hid (show w.heap.size + 3 ≤ w2.heap.size by have := F3.out.lt; omega)
  replace HGS := hid (show w.heap.size + 3 ≤ g from Nat.le_trans HWS.out HGS.out)
  replace O1 := hid (own_low' O1.out HWS.out)
  replace F1 := hid (F1.out.keep XY.out)
  replace F2 := hid (F2.out.keep XY.out)
  replace F3 := hid (F3.out.keep XY.out)
  replace XZ : Hid (Ext w y) := hid (XZ.out.then XY.out)
  replace HWS := hid (show w.heap.size + 3 ≤ y.heap.size from Nat.le_trans HWS.out XY.out.size)
  clear XY g0 g1 g2
  have g0 := F1.out.cell 0
  have g1 := F1.out.cell 1
  have g2 := F1.out.cell 2
  have o0 := F2.out.cell 0
  have o1 := F2.out.cell 1
  have o2 := F2.out.cell 2
  have o3 := F2.out.cell 3
  have u0 := BG.out.cell 0
  have u1 := BG.out.cell 1
  have u2 := BG.out.cell 2
  have t0 := F3.out.cell 0
  have t1 := F3.out.cell 1
  have t2 := F3.out.cell 2
  have x0 := F3.out.frozen 0
  have x1 := F3.out.frozen 1
  have x2 := F3.out.frozen 2
  go_wp2_with (go_at_call 43; refine (HND.out _ XZ.out).mono ?_; rintro e w4 ⟨rfl, rfl⟩)
  have z0 := F3.out.cell 0
  have z1 := F3.out.cell 1
  have z2 := F3.out.cell 2
  have y0 := F3.out.frozen 0
  have y1 := F3.out.frozen 1
  have y2 := F3.out.frozen 2
  go_wp2
  have HBF := hid ((((F3.out.set 0 (.slice none 0 0)).set 1 (.slice none 0 0)).set 2 (.slice none 0 0)).cast (cs' := #[.slice none 0 0, .slice none 0 0, .slice none 0 0]) (by simp))
  have XF := hid (Ext.put (Ext.put (Ext.put XZ.out (p := ⟨w.heap.size + 1 + 1, 0, none⟩) (by simp only; omega) (.slice none 0 0)) (p := ⟨w.heap.size + 1 + 1, 1, none⟩) (by simp only; omega) (.slice none 0 0)) (p := ⟨w.heap.size + 1 + 1, 2, none⟩) (by simp only; omega) (.slice none 0 0))
  refine bodyPost_ret (results_blk2 rfl _ _ (w.heap.size + 1 + 1) 25 _ _ rfl HBF.out Tryd.underlying25 rfl (by kernel_rfl)) rfl ?_
  exact ⟨_, by rw [HR.out]; rfl, by rw [HR.out]; exact fs0_P _ _, XF.out⟩
set_option maxHeartbeats 3200000 in
set_option maxRecDepth 100000 in
theorem doneOf_k4n (p : Nat → Prop) (f : Fs.FSy) (nn tt xx : ByteArray) (v : Value) (w : World) (hv : FsP p w v f) (hp : ∀ b, w.heap.size ≤ b → p b) (hb : Fs.FsB f) (h : Fs.Ok f) (hs : nn.size ≤ 140737488355328) (ht : tt.size ≤ 140737488355328) (hx : xx.size ≤ 140737488355328) (hc : Fs.opck (4, nn, tt, xx) = 0) (hs' : Fs.nof f.2.1 nn < 0) :
    Calls Tryd.prog 16 #[v, .agg #[.int .i64 4, .string nn, .string tt, .string xx]] w fun e w' => ∃ v', e = .returned (.tuple #[v', .int .i64 ((Fs.raw f (4, nn, tt, xx)).2 : Nat)]) ∧ FsP p w' v' (Fs.raw f (4, nn, tt, xx)).1 ∧ Ext w w' := by
  have HCK := hid (fun wx (hx : Ext w wx) => fsCheck_V f v wx (hv.V.keep hx) hb)
  obtain ⟨NA, nc, DA, dc, SA, sc, rfl, ⟨h1, h2, h3, z1, z2, z3⟩, k1, k2, k3⟩ := hv
  obtain ⟨n, hn⟩ : ∃ n, n = f.1.length := ⟨_, rfl⟩
  obtain ⟨m, hm⟩ : ∃ n, n = f.2.1.length := ⟨_, rfl⟩
  obtain ⟨q, hq⟩ : ∃ n, n = f.2.2.length := ⟨_, rfl⟩
  rw [← hn, ← hm, ← hq] at HCK ⊢
  rw [← hn] at k1 z1
  rw [← hm] at k2 z2
  rw [← hq] at k3 z3
  have HN := hid hn; have HM := hid hm; have HQ := hid hq
  have HR1 := hid h1; have HR2 := hid h2; have HR3 := hid h3
  have HK1 := hid k1; have HK2 := hid k2; have HK3 := hid k3
  have HZ1 := hid z1; have HZ2 := hid z2; have HZ3 := hid z3
  have HP := hid hp
  have HFM := hid (fun wx => opCheck_any 4 nn tt xx wx hs ht hx)
  rw [hc] at HFM
  have h0 := Fs.ok_iff.2 h
  rw [h0] at HCK
  have h24 := h.few
  have hmn := Fs.good_len h.dir
  have hqn := Fs.good_len h.syn
  have HOK := hid h
  have HOP := hid hc
  have HL24 := hid (show n ≤ 24 by omega)
  have HM24 := hid (show m ≤ 24 by omega)
  have HQ24 := hid (show q ≤ 24 by omega)
  have HND := hid (fun wx (hx : Ext w wx) => nodeOf_any f.2.1 nn DA m dc wx hm.symm (h2.keep hx) (by omega))
  have hnI : (n : Int) ≤ 24 := by omega
  have hmI : (m : Int) ≤ 24 := by omega
  have hj : Fs.nof f.2.1 nn = -1 := by have := Fs.nof_rng (Fs.dir_iff.2 h.dir) nn; omega
  rw [hj] at HND
  have HR := hid (show Fs.raw f (4, nn, tt, xx) = (Fs.fs0, 5) by unfold Fs.raw; simp only; rw [if_neg (by decide), if_neg (by decide), if_pos hs'])
  clear hb h1 h2 h3 k1 k2 k3 z1 z2 z3 hp hn hm hq h hs ht hx hc h0 h24 hmn hqn hs' hj
  go_enter Tryd.func16, Tryd.ntmps16
  go_upto_region 1 with fail
  refine wp_gen (fun w' => Ext w w' ∧ Blk w' w.heap.size 25 #[.slice NA n nc, .slice DA m dc, .slice SA q sc] ∧ Blk w' (w.heap.size + 1) 27 #[.int .i64 4, .string nn, .string tt, .string xx] ∧ Blk w' (w.heap.size + 1 + 1) 25 #[.slice none 0 0, .slice none 0 0, .slice none 0 0]) ⟨(((ext_refl _).new _).new _).new _, ((Blk.new _ _ _).alloc _).alloc _, (Blk.newAt (by simp)).alloc _, Blk.newAt (by simp)⟩ ?_
  rintro wz ⟨B0, B1, B2, B3⟩
  have XZ : Hid (Ext w wz) := hid B0
  have F1 := hid B1
  have F2 := hid B2
  have F3 := hid B3
  have p0 := B1.cell 0
  have p1 := B1.cell 1
  have p2 := B1.cell 2
  clear B0 B1 B2 B3
  go_wp2_with fail
  refine Calls.mono (HCK.out _ XZ.out) ?_
  rintro e w1 ⟨rfl, hx⟩
  replace XZ : Hid (Ext w w1) := hid (XZ.out.then hx)
  replace F1 := hid (F1.out.keep hx)
  replace F2 := hid (F2.out.keep hx)
  replace F3 := hid (F3.out.keep hx)
  clear hx p0 p1 p2
  have o0 := F2.out.cell 0
  have o1 := F2.out.cell 1
  have o2 := F2.out.cell 2
  have o3 := F2.out.cell 3
  go_wp2_with fail
  refine Calls.mono (HFM.out _) ?_
  rintro e w2 ⟨rfl, hx⟩
  replace XZ : Hid (Ext w w2) := hid (XZ.out.then hx)
  replace F1 := hid (F1.out.keep hx)
  replace F2 := hid (F2.out.keep hx)
  replace F3 := hid (F3.out.keep hx)
  clear hx o0 o1 o2 o3
  have g0 := F1.out.cell 0
  have g1 := F1.out.cell 1
  have g2 := F1.out.cell 2
  go_upto_region 6 with fail
  refine Code.wp_mono (Q := fun e a w' => e = .normal ∧ ∃ (g gx : Nat) (A1 : Option Addr) (c1 : Nat), a = ⟨#[.agg #[.slice NA n nc, .slice DA m dc, .slice SA q sc], .agg #[.int .i64 4, .string nn, .string tt, .string xx], .pointer (some ⟨w.heap.size, 0, none⟩), .pointer (some ⟨w.heap.size + 1, 0, none⟩), .pointer (some ⟨w.heap.size + 1 + 1, 0, none⟩), .int .i64 0, .int .i64 0, .pointer (some ⟨g, 0, none⟩), undef, .agg #[.slice NA n nc, .slice DA m dc, .slice SA q sc], .int .i64 0, .int .i64 0, .bool true, .agg #[.int .i64 4, .string nn, .string tt, .string xx], .int .i64 0, .int .i64 0, .bool false, undef, undef, .slice (some ⟨gx, 0, none⟩) 0 0, .pointer (some ⟨w.heap.size, 0, none⟩), .slice NA n nc, .slice A1 n c1, .pointer (some ⟨w.heap.size, 1, none⟩), .slice DA m dc, .pointer (some ⟨w.heap.size, 2, none⟩), .slice SA q sc, .agg #[.slice A1 n c1, .slice DA m dc, .slice SA q sc], undef, undef, undef, undef, undef, undef, undef, undef, undef, undef, undef, undef, undef, undef, undef, undef, undef, undef, undef, undef, undef, undef, undef, undef, undef, undef, undef, undef, undef, undef, undef, undef, undef, undef, undef, undef, undef, undef, undef, undef, undef, undef, undef, undef, undef, undef, undef, undef, undef, undef, undef, undef, undef, undef, undef, undef, undef, undef, undef, undef, undef, undef, undef, undef, undef, undef, undef, undef, undef, undef, undef, undef, undef, undef, undef, undef, undef, undef, undef, undef, undef, undef, undef, undef, undef, undef, undef, undef], []⟩ ∧ Hid (Ext w2 w') ∧ Hid (w2.heap.size ≤ g) ∧ Hid (Blk w' g 25 #[.slice A1 n c1, .slice DA m dc, .slice SA q sc]) ∧ Hid (w'.ownsRow w2.heap.size 49 2 (.slice A1 n c1) n (nds f.1))) ?_ ?_
  rotate_left
  · have g0r := cell_regrown g0
    have g1r := cell_regrown g1
    have g2r := cell_regrown g2
    refine wp_region_tree (.one 1 true (.one 2 true (.one 4 true (.one 5 true (.one 6 true (.one 7 true (.two 0 9 (.two 3 9 (.one 8 true (.one 9 false (.one 10 false (.nil)))) (.one 3 false (.one 8 true (.one 10 false (.nil))))) (.one 0 false (.one 3 false (.one 8 true (.one 10 false (.nil)))))))))))) (by kernel_rfl) (by kernel_rfl) (by rintro _ _ _ _ _ ⟨h, _⟩; cases h) (by kernel_rfl) (by rfl) ?_
    simp only [fillT, List.getD_cons_zero, List.getD_cons_succ]
    have Y0 : Ext w2 w2.drew := (ext_refl w2).draw
    generalize w2.drew = y0 at Y0 ⊢
    repeat (refine wpTO_val (by rfl) ?_; intro K hK; go_big_quiet_op; go_big_quiet_on)
    refine wpTO_two ?_ ?_
    · refine wpTO_do (by rfl) ?_
      intro K hK
      go_simp
      have O1 : (y0.alloc (.cells #[] 49)).ownsRow w2.heap.size 49 2 (.slice (some ⟨y0.heap.size, 0, none⟩) 0 0) 0 (nds []) := own_new (C := #[]) rfl rfl (Y0).size (Nat.zero_le _)
      have Y1 := Ext.new Y0 (.cells #[] 49)
      generalize y0.alloc (.cells #[] 49) = y1 at *
      generalize y0.heap.size = gx at *
      refine hK _ _ Y1 ?_
      clear K hK
      refine wpTO_two ?_ ?_
      · refine wpTO_do (by rfl) ?_
        intro K hK
        refine wp_app (.tmp 19) (.tmp 21) rowNo rfl _ 0 (nds []) rfl O1 _ n (nds f.1) rfl (Src.rd Tryd.underlying22 _ n nc _ (by rw [nds_len, HN.out]) (HR1.out.keep (XZ.out.then Y1)) (nds_one _) HZ1.out) (by have := HL24.out; simp only [maxLen] at *; omega) (by have := HL24.out; omega) (Y1).size ?_
        intro v' y2 hown9 hgrow hat hbel
        rw [Nat.zero_add] at hown9
        have Y2 : Ext w2 y2 := Below.trans Y1 hbel
        clear O1
        have O1 : y2.ownsRow w2.heap.size 49 2 v' n (nds f.1) := hown9
        clear hown9
        obtain ⟨A1, c1, rfl, _, _, _, _⟩ := Rd.owned O1
        refine hK _ _ Y2 ?_
        clear K hK hgrow hat hbel
        simp only [Act.put, List.setIfInBounds_toArray, List.set_cons_zero, List.set_cons_succ]
        repeat (refine wpTO_val (by rfl) ?_; intro K hK; go_big_quiet_op; go_big_quiet_on)
        refine wpTO_do (by rfl) ?_
        intro K hK
        go_simp
        replace O1 := own_ext O1 (Ext.new (ext_refl y2) (.cells #[.slice none 0 0, .slice none 0 0, .slice none 0 0] 25))
        have BG := Blk.new y2 25 #[.slice none 0 0, .slice none 0 0, .slice none 0 0]
        have Y3 := Ext.new Y2 (.cells #[.slice none 0 0, .slice none 0 0, .slice none 0 0] 25)
        have hgs := (Y2).size
        obtain ⟨g, hg⟩ : ∃ g, g = (y2 : World).heap.size := ⟨_, rfl⟩
        rw [← hg] at BG hgs ⊢
        generalize (y2 : World).alloc (.cells #[.slice none 0 0, .slice none 0 0, .slice none 0 0] 25) = y3 at *
        refine hK _ _ Y3 ?_
        clear K hK hg
        have q0 := BG.cell 0
        have q1 := BG.cell 1
        have q2 := BG.cell 2
        have f0 := BG.frozen 0
        have f1 := BG.frozen 1
        have f2 := BG.frozen 2
        refine wpTO_do (by rfl) ?_
        intro K hK
        go_simp
        refine hK _ _ (Ext.put (Ext.put (Ext.put Y3 (p := ⟨g, 0, none⟩) hgs (.slice A1 n c1)) (p := ⟨g, 1, none⟩) hgs (.slice DA m dc)) (p := ⟨g, 2, none⟩) hgs (.slice SA q sc)) ?_
        clear K hK
        refine wpTO_nil ?_
        refine ⟨rfl, g, gx, A1, c1, rfl, hid (Ext.put (Ext.put (Ext.put Y3 (p := ⟨g, 0, none⟩) hgs (.slice A1 n c1)) (p := ⟨g, 1, none⟩) hgs (.slice DA m dc)) (p := ⟨g, 2, none⟩) hgs (.slice SA q sc)), hid hgs, hid ((((BG.set 0 (.slice A1 n c1)).set 1 (.slice DA m dc)).set 2 (.slice SA q sc)).cast (by simp)), hid ?_⟩
        exact own_put (own_put (own_put O1 (p := ⟨g, 0, none⟩) (own_nblk O1 BG (by decide)) _) (p := ⟨g, 1, none⟩) (own_nblk O1 BG (by decide)) _) (p := ⟨g, 2, none⟩) (own_nblk O1 BG (by decide)) _
      · refine wpTO_do (by rfl) ?_
        intro K hK
        go_simp
        replace O1 := own_ext O1 (Ext.new (ext_refl y1) (.cells #[.slice none 0 0, .slice none 0 0, .slice none 0 0] 25))
        have BG := Blk.new y1 25 #[.slice none 0 0, .slice none 0 0, .slice none 0 0]
        have Y4 := Ext.new Y1 (.cells #[.slice none 0 0, .slice none 0 0, .slice none 0 0] 25)
        have hgs := (Y1).size
        obtain ⟨g, hg⟩ : ∃ g, g = (y1 : World).heap.size := ⟨_, rfl⟩
        rw [← hg] at BG hgs ⊢
        generalize (y1 : World).alloc (.cells #[.slice none 0 0, .slice none 0 0, .slice none 0 0] 25) = y4 at *
        refine hK _ _ Y4 ?_
        clear K hK hg
        refine wpTO_do (by rfl) ?_
        intro K hK
        refine wp_app (.tmp 19) (.tmp 21) rowNo rfl _ 0 (nds []) rfl O1 _ n (nds f.1) rfl (Src.rd Tryd.underlying22 _ n nc _ (by rw [nds_len, HN.out]) (HR1.out.keep (XZ.out.then Y4)) (nds_one _) HZ1.out) (by have := HL24.out; simp only [maxLen] at *; omega) (by have := HL24.out; omega) (Y4).size ?_
        intro v' y5 hown9 hgrow hat hbel
        rw [Nat.zero_add] at hown9
        have Y5 : Ext w2 y5 := Below.trans Y4 hbel
        replace BG := Blk.grown BG hgrow (own_nblk O1 BG (by decide))
        clear O1
        have O1 : y5.ownsRow w2.heap.size 49 2 v' n (nds f.1) := hown9
        clear hown9
        obtain ⟨A1, c1, rfl, _, _, _, _⟩ := Rd.owned O1
        refine hK _ _ Y5 ?_
        clear K hK hgrow hat hbel
        simp only [Act.put, List.setIfInBounds_toArray, List.set_cons_zero, List.set_cons_succ]
        repeat (refine wpTO_val (by rfl) ?_; intro K hK; go_big_quiet_op; go_big_quiet_on)
        have q0 := BG.cell 0
        have q1 := BG.cell 1
        have q2 := BG.cell 2
        have f0 := BG.frozen 0
        have f1 := BG.frozen 1
        have f2 := BG.frozen 2
        refine wpTO_do (by rfl) ?_
        intro K hK
        go_simp
        refine hK _ _ (Ext.put (Ext.put (Ext.put Y5 (p := ⟨g, 0, none⟩) hgs (.slice A1 n c1)) (p := ⟨g, 1, none⟩) hgs (.slice DA m dc)) (p := ⟨g, 2, none⟩) hgs (.slice SA q sc)) ?_
        clear K hK
        refine wpTO_nil ?_
        refine ⟨rfl, g, gx, A1, c1, rfl, hid (Ext.put (Ext.put (Ext.put Y5 (p := ⟨g, 0, none⟩) hgs (.slice A1 n c1)) (p := ⟨g, 1, none⟩) hgs (.slice DA m dc)) (p := ⟨g, 2, none⟩) hgs (.slice SA q sc)), hid hgs, hid ((((BG.set 0 (.slice A1 n c1)).set 1 (.slice DA m dc)).set 2 (.slice SA q sc)).cast (by simp)), hid ?_⟩
        exact own_put (own_put (own_put O1 (p := ⟨g, 0, none⟩) (own_nblk O1 BG (by decide)) _) (p := ⟨g, 1, none⟩) (own_nblk O1 BG (by decide)) _) (p := ⟨g, 2, none⟩) (own_nblk O1 BG (by decide)) _
    · refine wpTO_do (by rfl) ?_
      intro K hK
      go_simp
      have BG := Blk.new y0 25 #[.slice none 0 0, .slice none 0 0, .slice none 0 0]
      have Y6 := Ext.new Y0 (.cells #[.slice none 0 0, .slice none 0 0, .slice none 0 0] 25)
      have hgs := (Y0).size
      obtain ⟨g, hg⟩ : ∃ g, g = (y0 : World).heap.size := ⟨_, rfl⟩
      rw [← hg] at BG hgs ⊢
      generalize (y0 : World).alloc (.cells #[.slice none 0 0, .slice none 0 0, .slice none 0 0] 25) = y6 at *
      refine hK _ _ Y6 ?_
      clear K hK hg
      refine wpTO_do (by rfl) ?_
      intro K hK
      go_simp
      replace BG := Blk.keep BG (Ext.new (ext_refl y6) (.cells #[] 49))
      have O1 : (y6.alloc (.cells #[] 49)).ownsRow w2.heap.size 49 2 (.slice (some ⟨y6.heap.size, 0, none⟩) 0 0) 0 (nds []) := own_new (C := #[]) rfl rfl (Y6).size (Nat.zero_le _)
      have Y7 := Ext.new Y6 (.cells #[] 49)
      generalize y6.alloc (.cells #[] 49) = y7 at *
      generalize y6.heap.size = gx at *
      refine hK _ _ Y7 ?_
      clear K hK
      refine wpTO_do (by rfl) ?_
      intro K hK
      refine wp_app (.tmp 19) (.tmp 21) rowNo rfl _ 0 (nds []) rfl O1 _ n (nds f.1) rfl (Src.rd Tryd.underlying22 _ n nc _ (by rw [nds_len, HN.out]) (HR1.out.keep (XZ.out.then Y7)) (nds_one _) HZ1.out) (by have := HL24.out; simp only [maxLen] at *; omega) (by have := HL24.out; omega) (Y7).size ?_
      intro v' y8 hown9 hgrow hat hbel
      rw [Nat.zero_add] at hown9
      have Y8 : Ext w2 y8 := Below.trans Y7 hbel
      replace BG := Blk.grown BG hgrow (own_nblk O1 BG (by decide))
      clear O1
      have O1 : y8.ownsRow w2.heap.size 49 2 v' n (nds f.1) := hown9
      clear hown9
      obtain ⟨A1, c1, rfl, _, _, _, _⟩ := Rd.owned O1
      refine hK _ _ Y8 ?_
      clear K hK hgrow hat hbel
      simp only [Act.put, List.setIfInBounds_toArray, List.set_cons_zero, List.set_cons_succ]
      repeat (refine wpTO_val (by rfl) ?_; intro K hK; go_big_quiet_op; go_big_quiet_on)
      have q0 := BG.cell 0
      have q1 := BG.cell 1
      have q2 := BG.cell 2
      have f0 := BG.frozen 0
      have f1 := BG.frozen 1
      have f2 := BG.frozen 2
      refine wpTO_do (by rfl) ?_
      intro K hK
      go_simp
      refine hK _ _ (Ext.put (Ext.put (Ext.put Y8 (p := ⟨g, 0, none⟩) hgs (.slice A1 n c1)) (p := ⟨g, 1, none⟩) hgs (.slice DA m dc)) (p := ⟨g, 2, none⟩) hgs (.slice SA q sc)) ?_
      clear K hK
      refine wpTO_nil ?_
      refine ⟨rfl, g, gx, A1, c1, rfl, hid (Ext.put (Ext.put (Ext.put Y8 (p := ⟨g, 0, none⟩) hgs (.slice A1 n c1)) (p := ⟨g, 1, none⟩) hgs (.slice DA m dc)) (p := ⟨g, 2, none⟩) hgs (.slice SA q sc)), hid hgs, hid ((((BG.set 0 (.slice A1 n c1)).set 1 (.slice DA m dc)).set 2 (.slice SA q sc)).cast (by simp)), hid ?_⟩
      exact own_put (own_put (own_put O1 (p := ⟨g, 0, none⟩) (own_nblk O1 BG (by decide)) _) (p := ⟨g, 1, none⟩) (own_nblk O1 BG (by decide)) _) (p := ⟨g, 2, none⟩) (own_nblk O1 BG (by decide)) _

  rintro e a y ⟨rfl, g, gx, A1, c1, rfl, XY, HGS, BG, O1⟩
  have HWS := hid (show w.heap.size + 3 ≤ w2.heap.size by have := F3.out.lt; omega)
  replace HGS := hid (show w.heap.size + 3 ≤ g from Nat.le_trans HWS.out HGS.out)
  replace O1 := hid (own_low' O1.out HWS.out)
  replace F1 := hid (F1.out.keep XY.out)
  replace F2 := hid (F2.out.keep XY.out)
  replace F3 := hid (F3.out.keep XY.out)
  replace XZ : Hid (Ext w y) := hid (XZ.out.then XY.out)
  replace HWS := hid (show w.heap.size + 3 ≤ y.heap.size from Nat.le_trans HWS.out XY.out.size)
  clear XY g0 g1 g2
  have g0 := F1.out.cell 0
  have g1 := F1.out.cell 1
  have g2 := F1.out.cell 2
  have o0 := F2.out.cell 0
  have o1 := F2.out.cell 1
  have o2 := F2.out.cell 2
  have o3 := F2.out.cell 3
  have u0 := BG.out.cell 0
  have u1 := BG.out.cell 1
  have u2 := BG.out.cell 2
  have t0 := F3.out.cell 0
  have t1 := F3.out.cell 1
  have t2 := F3.out.cell 2
  have x0 := F3.out.frozen 0
  have x1 := F3.out.frozen 1
  have x2 := F3.out.frozen 2
  go_wp2_with (go_at_call 43; refine (HND.out _ XZ.out).mono ?_; rintro e w4 ⟨rfl, rfl⟩)
  have z0 := F3.out.cell 0
  have z1 := F3.out.cell 1
  have z2 := F3.out.cell 2
  have y0 := F3.out.frozen 0
  have y1 := F3.out.frozen 1
  have y2 := F3.out.frozen 2
  go_wp2
  have HBF := hid ((((F3.out.set 0 (.slice none 0 0)).set 1 (.slice none 0 0)).set 2 (.slice none 0 0)).cast (cs' := #[.slice none 0 0, .slice none 0 0, .slice none 0 0]) (by simp))
  have XF := hid (Ext.put (Ext.put (Ext.put XZ.out (p := ⟨w.heap.size + 1 + 1, 0, none⟩) (by simp only; omega) (.slice none 0 0)) (p := ⟨w.heap.size + 1 + 1, 1, none⟩) (by simp only; omega) (.slice none 0 0)) (p := ⟨w.heap.size + 1 + 1, 2, none⟩) (by simp only; omega) (.slice none 0 0))
  refine bodyPost_ret (results_blk2 rfl _ _ (w.heap.size + 1 + 1) 25 _ _ rfl HBF.out Tryd.underlying25 rfl (by kernel_rfl)) rfl ?_
  exact ⟨_, by rw [HR.out]; rfl, by rw [HR.out]; exact fs0_P _ _, XF.out⟩
end Go.Proofs.YtolhifnlahllnaaDoor
end
section
namespace Go.Proofs.YtolhifnlahllnaaDoor
open Go.RowKit Hy
set_option maxHeartbeats 3200000 in
set_option maxRecDepth 100000 in
theorem doneOf_k5 (p : Nat → Prop) (f : Fs.FSy) (nn tt xx : ByteArray) (v : Value) (w : World) (hv : FsP p w v f) (hp : ∀ b, w.heap.size ≤ b → p b) (hb : Fs.FsB f) (h : Fs.Ok f) (hs : nn.size ≤ 140737488355328) (ht : tt.size ≤ 140737488355328) (hx : xx.size ≤ 140737488355328) (hc : Fs.opck (5, nn, tt, xx) = 0) :
    Calls Tryd.prog 16 #[v, .agg #[.int .i64 5, .string nn, .string tt, .string xx]] w fun e w' => ∃ v', e = .returned (.tuple #[v', .int .i64 ((Fs.raw f (5, nn, tt, xx)).2 : Nat)]) ∧ FsP p w' v' (Fs.raw f (5, nn, tt, xx)).1 ∧ Ext w w' := by
  have HCK := hid (fun wx (hx : Ext w wx) => fsCheck_V f v wx (hv.V.keep hx) hb)
  obtain ⟨NA, nc, DA, dc, SA, sc, rfl, ⟨h1, h2, h3, z1, z2, z3⟩, k1, k2, k3⟩ := hv
  obtain ⟨n, hn⟩ : ∃ n, n = f.1.length := ⟨_, rfl⟩
  obtain ⟨m, hm⟩ : ∃ n, n = f.2.1.length := ⟨_, rfl⟩
  obtain ⟨q, hq⟩ : ∃ n, n = f.2.2.length := ⟨_, rfl⟩
  rw [← hn, ← hm, ← hq] at HCK ⊢
  rw [← hn] at k1 z1
  rw [← hm] at k2 z2
  rw [← hq] at k3 z3
  have HN := hid hn; have HM := hid hm; have HQ := hid hq
  have HR1 := hid h1; have HR2 := hid h2; have HR3 := hid h3
  have HK1 := hid k1; have HK2 := hid k2; have HK3 := hid k3
  have HZ1 := hid z1; have HZ2 := hid z2; have HZ3 := hid z3
  have HP := hid hp
  have HFM := hid (fun wx => opCheck_any 5 nn tt xx wx hs ht hx)
  rw [hc] at HFM
  have h0 := Fs.ok_iff.2 h
  rw [h0] at HCK
  have h24 := h.few
  have hmn := Fs.good_len h.dir
  have hqn := Fs.good_len h.syn
  have HOK := hid h
  have HOP := hid hc
  have HL24 := hid (show n ≤ 24 by omega)
  have HM24 := hid (show m ≤ 24 by omega)
  have HQ24 := hid (show q ≤ 24 by omega)
  have HND := hid (fun wx (hx : Ext w wx) => nodeOf_any f.2.1 nn DA m dc wx hm.symm (h2.keep hx) (by omega))
  have hnI : (n : Int) ≤ 24 := by omega
  have hmI : (m : Int) ≤ 24 := by omega
  have HRW := hid (show Fs.raw f (5, nn, tt, xx) = (Fs.swp (f.1, f.2.1, f.2.1), 0) by unfold Fs.raw; simp only; rw [if_neg (by decide), if_pos trivial])
  have hd5 := h.dir
  obtain ⟨nf, hnf⟩ : ∃ nf, nf = Fs.nof f.2.1 nn := ⟨_, rfl⟩
  rw [← hnf] at HND
  clear hb h1 h2 h3 k1 k2 k3 z1 z2 z3 hp hn hm hq h hs ht hx hc h0 h24 hmn hqn hd5 hnf
  go_enter Tryd.func16, Tryd.ntmps16
  go_upto_region 1 with fail
  refine wp_gen (fun w' => Ext w w' ∧ Blk w' w.heap.size 25 #[.slice NA n nc, .slice DA m dc, .slice SA q sc] ∧ Blk w' (w.heap.size + 1) 27 #[.int .i64 5, .string nn, .string tt, .string xx] ∧ Blk w' (w.heap.size + 1 + 1) 25 #[.slice none 0 0, .slice none 0 0, .slice none 0 0]) ⟨(((ext_refl _).new _).new _).new _, ((Blk.new _ _ _).alloc _).alloc _, (Blk.newAt (by simp)).alloc _, Blk.newAt (by simp)⟩ ?_
  rintro wz ⟨B0, B1, B2, B3⟩
  have XZ : Hid (Ext w wz) := hid B0
  have F1 := hid B1
  have F2 := hid B2
  have F3 := hid B3
  have p0 := B1.cell 0
  have p1 := B1.cell 1
  have p2 := B1.cell 2
  clear B0 B1 B2 B3
  go_wp2_with fail
  refine Calls.mono (HCK.out _ XZ.out) ?_
  rintro e w1 ⟨rfl, hx⟩
  replace XZ : Hid (Ext w w1) := hid (XZ.out.then hx)
  replace F1 := hid (F1.out.keep hx)
  replace F2 := hid (F2.out.keep hx)
  replace F3 := hid (F3.out.keep hx)
  clear hx p0 p1 p2
  have o0 := F2.out.cell 0
  have o1 := F2.out.cell 1
  have o2 := F2.out.cell 2
  have o3 := F2.out.cell 3
  go_wp2_with fail
  refine Calls.mono (HFM.out _) ?_
  rintro e w2 ⟨rfl, hx⟩
  replace XZ : Hid (Ext w w2) := hid (XZ.out.then hx)
  replace F1 := hid (F1.out.keep hx)
  replace F2 := hid (F2.out.keep hx)
  replace F3 := hid (F3.out.keep hx)
  clear hx o0 o1 o2 o3
  have g0 := F1.out.cell 0
  have g1 := F1.out.cell 1
  have g2 := F1.out.cell 2
  go_upto_region 6 with fail
  refine Code.wp_mono (Q := fun e a w' => e = .normal ∧ ∃ (g gx : Nat) (A1 : Option Addr) (c1 : Nat), a = ⟨#[.agg #[.slice NA n nc, .slice DA m dc, .slice SA q sc], .agg #[.int .i64 5, .string nn, .string tt, .string xx], .pointer (some ⟨w.heap.size, 0, none⟩), .pointer (some ⟨w.heap.size + 1, 0, none⟩), .pointer (some ⟨w.heap.size + 1 + 1, 0, none⟩), .int .i64 0, .int .i64 0, .pointer (some ⟨g, 0, none⟩), undef, .agg #[.slice NA n nc, .slice DA m dc, .slice SA q sc], .int .i64 0, .int .i64 0, .bool true, .agg #[.int .i64 5, .string nn, .string tt, .string xx], .int .i64 0, .int .i64 0, .bool false, undef, undef, .slice (some ⟨gx, 0, none⟩) 0 0, .pointer (some ⟨w.heap.size, 0, none⟩), .slice NA n nc, .slice A1 n c1, .pointer (some ⟨w.heap.size, 1, none⟩), .slice DA m dc, .pointer (some ⟨w.heap.size, 2, none⟩), .slice SA q sc, .agg #[.slice A1 n c1, .slice DA m dc, .slice SA q sc], undef, undef, undef, undef, undef, undef, undef, undef, undef, undef, undef, undef, undef, undef, undef, undef, undef, undef, undef, undef, undef, undef, undef, undef, undef, undef, undef, undef, undef, undef, undef, undef, undef, undef, undef, undef, undef, undef, undef, undef, undef, undef, undef, undef, undef, undef, undef, undef, undef, undef, undef, undef, undef, undef, undef, undef, undef, undef, undef, undef, undef, undef, undef, undef, undef, undef, undef, undef, undef, undef, undef, undef, undef, undef, undef, undef, undef, undef, undef, undef, undef, undef, undef, undef, undef, undef, undef, undef], []⟩ ∧ Hid (Ext w2 w') ∧ Hid (w2.heap.size ≤ g) ∧ Hid (Blk w' g 25 #[.slice A1 n c1, .slice DA m dc, .slice SA q sc]) ∧ Hid (w'.ownsRow w2.heap.size 49 2 (.slice A1 n c1) n (nds f.1))) ?_ ?_
  rotate_left
  · have g0r := cell_regrown g0
    have g1r := cell_regrown g1
    have g2r := cell_regrown g2
    refine wp_region_tree (.one 1 true (.one 2 true (.one 4 true (.one 5 true (.one 6 true (.one 7 true (.two 0 9 (.two 3 9 (.one 8 true (.one 9 false (.one 10 false (.nil)))) (.one 3 false (.one 8 true (.one 10 false (.nil))))) (.one 0 false (.one 3 false (.one 8 true (.one 10 false (.nil)))))))))))) (by kernel_rfl) (by kernel_rfl) (by rintro _ _ _ _ _ ⟨h, _⟩; cases h) (by kernel_rfl) (by rfl) ?_
    simp only [fillT, List.getD_cons_zero, List.getD_cons_succ]
    have Y0 : Ext w2 w2.drew := (ext_refl w2).draw
    generalize w2.drew = y0 at Y0 ⊢
    repeat (refine wpTO_val (by rfl) ?_; intro K hK; go_big_quiet_op; go_big_quiet_on)
    refine wpTO_two ?_ ?_
    · refine wpTO_do (by rfl) ?_
      intro K hK
      go_simp
      have O1 : (y0.alloc (.cells #[] 49)).ownsRow w2.heap.size 49 2 (.slice (some ⟨y0.heap.size, 0, none⟩) 0 0) 0 (nds []) := own_new (C := #[]) rfl rfl (Y0).size (Nat.zero_le _)
      have Y1 := Ext.new Y0 (.cells #[] 49)
      generalize y0.alloc (.cells #[] 49) = y1 at *
      generalize y0.heap.size = gx at *
      refine hK _ _ Y1 ?_
      clear K hK
      refine wpTO_two ?_ ?_
      · refine wpTO_do (by rfl) ?_
        intro K hK
        refine wp_app (.tmp 19) (.tmp 21) rowNo rfl _ 0 (nds []) rfl O1 _ n (nds f.1) rfl (Src.rd Tryd.underlying22 _ n nc _ (by rw [nds_len, HN.out]) (HR1.out.keep (XZ.out.then Y1)) (nds_one _) HZ1.out) (by have := HL24.out; simp only [maxLen] at *; omega) (by have := HL24.out; omega) (Y1).size ?_
        intro v' y2 hown9 hgrow hat hbel
        rw [Nat.zero_add] at hown9
        have Y2 : Ext w2 y2 := Below.trans Y1 hbel
        clear O1
        have O1 : y2.ownsRow w2.heap.size 49 2 v' n (nds f.1) := hown9
        clear hown9
        obtain ⟨A1, c1, rfl, _, _, _, _⟩ := Rd.owned O1
        refine hK _ _ Y2 ?_
        clear K hK hgrow hat hbel
        simp only [Act.put, List.setIfInBounds_toArray, List.set_cons_zero, List.set_cons_succ]
        repeat (refine wpTO_val (by rfl) ?_; intro K hK; go_big_quiet_op; go_big_quiet_on)
        refine wpTO_do (by rfl) ?_
        intro K hK
        go_simp
        replace O1 := own_ext O1 (Ext.new (ext_refl y2) (.cells #[.slice none 0 0, .slice none 0 0, .slice none 0 0] 25))
        have BG := Blk.new y2 25 #[.slice none 0 0, .slice none 0 0, .slice none 0 0]
        have Y3 := Ext.new Y2 (.cells #[.slice none 0 0, .slice none 0 0, .slice none 0 0] 25)
        have hgs := (Y2).size
        obtain ⟨g, hg⟩ : ∃ g, g = (y2 : World).heap.size := ⟨_, rfl⟩
        rw [← hg] at BG hgs ⊢
        generalize (y2 : World).alloc (.cells #[.slice none 0 0, .slice none 0 0, .slice none 0 0] 25) = y3 at *
        refine hK _ _ Y3 ?_
        clear K hK hg
        have q0 := BG.cell 0
        have q1 := BG.cell 1
        have q2 := BG.cell 2
        have f0 := BG.frozen 0
        have f1 := BG.frozen 1
        have f2 := BG.frozen 2
        refine wpTO_do (by rfl) ?_
        intro K hK
        go_simp
        refine hK _ _ (Ext.put (Ext.put (Ext.put Y3 (p := ⟨g, 0, none⟩) hgs (.slice A1 n c1)) (p := ⟨g, 1, none⟩) hgs (.slice DA m dc)) (p := ⟨g, 2, none⟩) hgs (.slice SA q sc)) ?_
        clear K hK
        refine wpTO_nil ?_
        refine ⟨rfl, g, gx, A1, c1, rfl, hid (Ext.put (Ext.put (Ext.put Y3 (p := ⟨g, 0, none⟩) hgs (.slice A1 n c1)) (p := ⟨g, 1, none⟩) hgs (.slice DA m dc)) (p := ⟨g, 2, none⟩) hgs (.slice SA q sc)), hid hgs, hid ((((BG.set 0 (.slice A1 n c1)).set 1 (.slice DA m dc)).set 2 (.slice SA q sc)).cast (by simp)), hid ?_⟩
        exact own_put (own_put (own_put O1 (p := ⟨g, 0, none⟩) (own_nblk O1 BG (by decide)) _) (p := ⟨g, 1, none⟩) (own_nblk O1 BG (by decide)) _) (p := ⟨g, 2, none⟩) (own_nblk O1 BG (by decide)) _
      · refine wpTO_do (by rfl) ?_
        intro K hK
        go_simp
        replace O1 := own_ext O1 (Ext.new (ext_refl y1) (.cells #[.slice none 0 0, .slice none 0 0, .slice none 0 0] 25))
        have BG := Blk.new y1 25 #[.slice none 0 0, .slice none 0 0, .slice none 0 0]
        have Y4 := Ext.new Y1 (.cells #[.slice none 0 0, .slice none 0 0, .slice none 0 0] 25)
        have hgs := (Y1).size
        obtain ⟨g, hg⟩ : ∃ g, g = (y1 : World).heap.size := ⟨_, rfl⟩
        rw [← hg] at BG hgs ⊢
        generalize (y1 : World).alloc (.cells #[.slice none 0 0, .slice none 0 0, .slice none 0 0] 25) = y4 at *
        refine hK _ _ Y4 ?_
        clear K hK hg
        refine wpTO_do (by rfl) ?_
        intro K hK
        refine wp_app (.tmp 19) (.tmp 21) rowNo rfl _ 0 (nds []) rfl O1 _ n (nds f.1) rfl (Src.rd Tryd.underlying22 _ n nc _ (by rw [nds_len, HN.out]) (HR1.out.keep (XZ.out.then Y4)) (nds_one _) HZ1.out) (by have := HL24.out; simp only [maxLen] at *; omega) (by have := HL24.out; omega) (Y4).size ?_
        intro v' y5 hown9 hgrow hat hbel
        rw [Nat.zero_add] at hown9
        have Y5 : Ext w2 y5 := Below.trans Y4 hbel
        replace BG := Blk.grown BG hgrow (own_nblk O1 BG (by decide))
        clear O1
        have O1 : y5.ownsRow w2.heap.size 49 2 v' n (nds f.1) := hown9
        clear hown9
        obtain ⟨A1, c1, rfl, _, _, _, _⟩ := Rd.owned O1
        refine hK _ _ Y5 ?_
        clear K hK hgrow hat hbel
        simp only [Act.put, List.setIfInBounds_toArray, List.set_cons_zero, List.set_cons_succ]
        repeat (refine wpTO_val (by rfl) ?_; intro K hK; go_big_quiet_op; go_big_quiet_on)
        have q0 := BG.cell 0
        have q1 := BG.cell 1
        have q2 := BG.cell 2
        have f0 := BG.frozen 0
        have f1 := BG.frozen 1
        have f2 := BG.frozen 2
        refine wpTO_do (by rfl) ?_
        intro K hK
        go_simp
        refine hK _ _ (Ext.put (Ext.put (Ext.put Y5 (p := ⟨g, 0, none⟩) hgs (.slice A1 n c1)) (p := ⟨g, 1, none⟩) hgs (.slice DA m dc)) (p := ⟨g, 2, none⟩) hgs (.slice SA q sc)) ?_
        clear K hK
        refine wpTO_nil ?_
        refine ⟨rfl, g, gx, A1, c1, rfl, hid (Ext.put (Ext.put (Ext.put Y5 (p := ⟨g, 0, none⟩) hgs (.slice A1 n c1)) (p := ⟨g, 1, none⟩) hgs (.slice DA m dc)) (p := ⟨g, 2, none⟩) hgs (.slice SA q sc)), hid hgs, hid ((((BG.set 0 (.slice A1 n c1)).set 1 (.slice DA m dc)).set 2 (.slice SA q sc)).cast (by simp)), hid ?_⟩
        exact own_put (own_put (own_put O1 (p := ⟨g, 0, none⟩) (own_nblk O1 BG (by decide)) _) (p := ⟨g, 1, none⟩) (own_nblk O1 BG (by decide)) _) (p := ⟨g, 2, none⟩) (own_nblk O1 BG (by decide)) _
    · refine wpTO_do (by rfl) ?_
      intro K hK
      go_simp
      have BG := Blk.new y0 25 #[.slice none 0 0, .slice none 0 0, .slice none 0 0]
      have Y6 := Ext.new Y0 (.cells #[.slice none 0 0, .slice none 0 0, .slice none 0 0] 25)
      have hgs := (Y0).size
      obtain ⟨g, hg⟩ : ∃ g, g = (y0 : World).heap.size := ⟨_, rfl⟩
      rw [← hg] at BG hgs ⊢
      generalize (y0 : World).alloc (.cells #[.slice none 0 0, .slice none 0 0, .slice none 0 0] 25) = y6 at *
      refine hK _ _ Y6 ?_
      clear K hK hg
      refine wpTO_do (by rfl) ?_
      intro K hK
      go_simp
      replace BG := Blk.keep BG (Ext.new (ext_refl y6) (.cells #[] 49))
      have O1 : (y6.alloc (.cells #[] 49)).ownsRow w2.heap.size 49 2 (.slice (some ⟨y6.heap.size, 0, none⟩) 0 0) 0 (nds []) := own_new (C := #[]) rfl rfl (Y6).size (Nat.zero_le _)
      have Y7 := Ext.new Y6 (.cells #[] 49)
      generalize y6.alloc (.cells #[] 49) = y7 at *
      generalize y6.heap.size = gx at *
      refine hK _ _ Y7 ?_
      clear K hK
      refine wpTO_do (by rfl) ?_
      intro K hK
      refine wp_app (.tmp 19) (.tmp 21) rowNo rfl _ 0 (nds []) rfl O1 _ n (nds f.1) rfl (Src.rd Tryd.underlying22 _ n nc _ (by rw [nds_len, HN.out]) (HR1.out.keep (XZ.out.then Y7)) (nds_one _) HZ1.out) (by have := HL24.out; simp only [maxLen] at *; omega) (by have := HL24.out; omega) (Y7).size ?_
      intro v' y8 hown9 hgrow hat hbel
      rw [Nat.zero_add] at hown9
      have Y8 : Ext w2 y8 := Below.trans Y7 hbel
      replace BG := Blk.grown BG hgrow (own_nblk O1 BG (by decide))
      clear O1
      have O1 : y8.ownsRow w2.heap.size 49 2 v' n (nds f.1) := hown9
      clear hown9
      obtain ⟨A1, c1, rfl, _, _, _, _⟩ := Rd.owned O1
      refine hK _ _ Y8 ?_
      clear K hK hgrow hat hbel
      simp only [Act.put, List.setIfInBounds_toArray, List.set_cons_zero, List.set_cons_succ]
      repeat (refine wpTO_val (by rfl) ?_; intro K hK; go_big_quiet_op; go_big_quiet_on)
      have q0 := BG.cell 0
      have q1 := BG.cell 1
      have q2 := BG.cell 2
      have f0 := BG.frozen 0
      have f1 := BG.frozen 1
      have f2 := BG.frozen 2
      refine wpTO_do (by rfl) ?_
      intro K hK
      go_simp
      refine hK _ _ (Ext.put (Ext.put (Ext.put Y8 (p := ⟨g, 0, none⟩) hgs (.slice A1 n c1)) (p := ⟨g, 1, none⟩) hgs (.slice DA m dc)) (p := ⟨g, 2, none⟩) hgs (.slice SA q sc)) ?_
      clear K hK
      refine wpTO_nil ?_
      refine ⟨rfl, g, gx, A1, c1, rfl, hid (Ext.put (Ext.put (Ext.put Y8 (p := ⟨g, 0, none⟩) hgs (.slice A1 n c1)) (p := ⟨g, 1, none⟩) hgs (.slice DA m dc)) (p := ⟨g, 2, none⟩) hgs (.slice SA q sc)), hid hgs, hid ((((BG.set 0 (.slice A1 n c1)).set 1 (.slice DA m dc)).set 2 (.slice SA q sc)).cast (by simp)), hid ?_⟩
      exact own_put (own_put (own_put O1 (p := ⟨g, 0, none⟩) (own_nblk O1 BG (by decide)) _) (p := ⟨g, 1, none⟩) (own_nblk O1 BG (by decide)) _) (p := ⟨g, 2, none⟩) (own_nblk O1 BG (by decide)) _

  rintro e a y ⟨rfl, g, gx, A1, c1, rfl, XY, HGS, BG, O1⟩
  have HWS := hid (show w.heap.size + 3 ≤ w2.heap.size by have := F3.out.lt; omega)
  replace HGS := hid (show w.heap.size + 3 ≤ g from Nat.le_trans HWS.out HGS.out)
  replace O1 := hid (own_low' O1.out HWS.out)
  replace F1 := hid (F1.out.keep XY.out)
  replace F2 := hid (F2.out.keep XY.out)
  replace F3 := hid (F3.out.keep XY.out)
  replace XZ : Hid (Ext w y) := hid (XZ.out.then XY.out)
  replace HWS := hid (show w.heap.size + 3 ≤ y.heap.size from Nat.le_trans HWS.out XY.out.size)
  clear XY g0 g1 g2
  have g0 := F1.out.cell 0
  have g1 := F1.out.cell 1
  have g2 := F1.out.cell 2
  have o0 := F2.out.cell 0
  have o1 := F2.out.cell 1
  have o2 := F2.out.cell 2
  have o3 := F2.out.cell 3
  have u0 := BG.out.cell 0
  have u1 := BG.out.cell 1
  have u2 := BG.out.cell 2
  have t0 := F3.out.cell 0
  have t1 := F3.out.cell 1
  have t2 := F3.out.cell 2
  have x0 := F3.out.frozen 0
  have x1 := F3.out.frozen 1
  have x2 := F3.out.frozen 2
  have hgr : ¬ w.heap.size + 1 + 1 = g := by have := HGS.out; omega
  have hgr2 : ¬ g = w.heap.size + 1 + 1 := by have := HGS.out; omega
  have hgs0 : ¬ w.heap.size = g := by have := HGS.out; omega
  have hgs1 : ¬ w.heap.size + 1 = g := by have := HGS.out; omega
  have fg0 := BG.out.frozen 0
  have fg1 := BG.out.frozen 1
  have fg2 := BG.out.frozen 2
  go_wp2_with fail
  refine (HND.out _ XZ.out).mono ?_
  rintro e w4 ⟨rfl, rfl⟩
  go_wp2_with fail
  have Z1 := hid (Ext.put XZ.out (p := ⟨g, 2, none⟩) (by have := HGS.out; simp only; omega) (.slice DA m dc))
  have Z3 := hid (F3.out.far (p := ⟨g, 2, none⟩) hgr (.slice DA m dc))
  have ZG := hid ((BG.out.set 2 (.slice DA m dc)).cast (cs' := #[.slice A1 n c1, .slice DA m dc, .slice DA m dc]) (by simp))
  have FV := hid (FsV.mk' (f := (f.1, f.2.1, f.2.1)) HN.out.symm HM.out.symm HM.out.symm ((own_rd (own_put O1.out (p := ⟨g, 2, none⟩) (own_nblk O1.out BG.out (by decide)) (.slice DA m dc))).1) (HR2.out.keep Z1.out) (HR2.out.keep Z1.out) (own_rd O1.out).2.1 HZ2.out HZ2.out (c1 := c1) (c2 := dc) (c3 := dc))
  have HSZ := hid (size_put y ⟨g, 2, none⟩ (.slice DA m dc))
  have u0 := ZG.out.cell 0
  have u1 := ZG.out.cell 1
  have u2 := ZG.out.cell 2
  have HSW := hid (sweptG (f.1, f.2.1, f.2.1) _ _ FV.out HOK.out.few HOK.out.dir HOK.out.dir)
  have HZS := hid (show w.heap.size + 3 ≤ _ from Nat.le_trans HWS.out (Nat.le_of_eq HSZ.out.symm))
  clear HWS
  refine Calls.mono HSW.out ?_
  rintro e w8 ⟨v8, rfl, hf8, hx8⟩
  have FO := hid (hf8.low HZS.out)
  have X8 : Hid (Ext w w8) := hid (Z1.out.then hx8)
  have F8 := hid (Z3.out.keep hx8)
  obtain ⟨S1, b1, S2, b2, S3, b3, rfl, _, _, _⟩ := hf8
  obtain ⟨FW, hFW⟩ : ∃ F, F = Fs.swp (f.1, f.2.1, f.2.1) := ⟨_, rfl⟩
  rw [← hFW] at FO HRW ⊢
  obtain ⟨n8, hn8⟩ : ∃ n, n = FW.1.length := ⟨_, rfl⟩
  obtain ⟨m8, hm8⟩ : ∃ n, n = FW.2.1.length := ⟨_, rfl⟩
  obtain ⟨q8, hq8⟩ : ∃ n, n = FW.2.2.length := ⟨_, rfl⟩
  rw [← hn8, ← hm8, ← hq8] at FO
  rw [← hn8, ← hm8, ← hq8]
  have t0 := F8.out.cell 0
  have t1 := F8.out.cell 1
  have t2 := F8.out.cell 2
  have x0 := F8.out.frozen 0
  have x1 := F8.out.frozen 1
  have x2 := F8.out.frozen 2
  clear hx8 hFW hn8 hm8 hq8
  go_wp2
  have hne : w.heap.size + 1 + 1 < w.heap.size + 3 := by omega
  have HBF := hid ((((F8.out.set 0 (.slice S1 n8 b1)).set 1 (.slice S2 m8 b2)).set 2 (.slice S3 q8 b3)).cast (cs' := #[.slice S1 n8 b1, .slice S2 m8 b2, .slice S3 q8 b3]) (by simp))
  have XF := hid (Ext.put (Ext.put (Ext.put X8.out (p := ⟨w.heap.size + 1 + 1, 0, none⟩) (by simp only; omega) (.slice S1 n8 b1)) (p := ⟨w.heap.size + 1 + 1, 1, none⟩) (by simp only; omega) (.slice S2 m8 b2)) (p := ⟨w.heap.size + 1 + 1, 2, none⟩) (by simp only; omega) (.slice S3 q8 b3))
  refine bodyPost_ret (results_blk2 rfl _ _ (w.heap.size + 1 + 1) 25 _ _ rfl HBF.out Tryd.underlying25 rfl (by kernel_rfl)) rfl ?_
  refine ⟨_, by rw [HRW.out]; rfl, ?_, XF.out⟩
  rw [HRW.out]
  exact FsO.P (((FO.out.put (p := ⟨w.heap.size + 1 + 1, 0, none⟩) hne _).put (p := ⟨w.heap.size + 1 + 1, 1, none⟩) hne _).put (p := ⟨w.heap.size + 1 + 1, 2, none⟩) hne _) (fun b hb => HP.out b (by omega))
set_option maxHeartbeats 3200000 in
set_option maxRecDepth 100000 in
theorem doneOf_k4 (p : Nat → Prop) (f : Fs.FSy) (nn tt xx : ByteArray) (v : Value) (w : World) (hv : FsP p w v f) (hp : ∀ b, w.heap.size ≤ b → p b) (hb : Fs.FsB f) (h : Fs.Ok f) (hs : nn.size ≤ 140737488355328) (ht : tt.size ≤ 140737488355328) (hx : xx.size ≤ 140737488355328) (hc : Fs.opck (4, nn, tt, xx) = 0) (hs' : ¬ Fs.nof f.2.1 nn < 0) :
    Calls Tryd.prog 16 #[v, .agg #[.int .i64 4, .string nn, .string tt, .string xx]] w fun e w' => ∃ v', e = .returned (.tuple #[v', .int .i64 ((Fs.raw f (4, nn, tt, xx)).2 : Nat)]) ∧ FsP p w' v' (Fs.raw f (4, nn, tt, xx)).1 ∧ Ext w w' := by
  have HCK := hid (fun wx (hx : Ext w wx) => fsCheck_V f v wx (hv.V.keep hx) hb)
  obtain ⟨NA, nc, DA, dc, SA, sc, rfl, ⟨h1, h2, h3, z1, z2, z3⟩, k1, k2, k3⟩ := hv
  obtain ⟨n, hn⟩ : ∃ n, n = f.1.length := ⟨_, rfl⟩
  obtain ⟨m, hm⟩ : ∃ n, n = f.2.1.length := ⟨_, rfl⟩
  obtain ⟨q, hq⟩ : ∃ n, n = f.2.2.length := ⟨_, rfl⟩
  rw [← hn, ← hm, ← hq] at HCK ⊢
  rw [← hn] at k1 z1
  rw [← hm] at k2 z2
  rw [← hq] at k3 z3
  have HN := hid hn; have HM := hid hm; have HQ := hid hq
  have HR1 := hid h1; have HR2 := hid h2; have HR3 := hid h3
  have HK1 := hid k1; have HK2 := hid k2; have HK3 := hid k3
  have HZ1 := hid z1; have HZ2 := hid z2; have HZ3 := hid z3
  have HP := hid hp
  have HFM := hid (fun wx => opCheck_any 4 nn tt xx wx hs ht hx)
  rw [hc] at HFM
  have h0 := Fs.ok_iff.2 h
  rw [h0] at HCK
  have h24 := h.few
  have hmn := Fs.good_len h.dir
  have hqn := Fs.good_len h.syn
  have HOK := hid h
  have HOP := hid hc
  have HL24 := hid (show n ≤ 24 by omega)
  have HM24 := hid (show m ≤ 24 by omega)
  have HQ24 := hid (show q ≤ 24 by omega)
  have HND := hid (fun wx (hx : Ext w wx) => nodeOf_any f.2.1 nn DA m dc wx hm.symm (h2.keep hx) (by omega))
  have hnI : (n : Int) ≤ 24 := by omega
  have hmI : (m : Int) ≤ 24 := by omega
  obtain ⟨j, hj⟩ : ∃ j : Nat, Fs.nof f.2.1 nn = (j : Int) := ⟨(Fs.nof f.2.1 nn).toNat, by omega⟩
  have hjn : j < n := by have := Fs.nof_rng (Fs.dir_iff.2 h.dir) nn; omega
  rw [hj] at HND
  have HJN := hid hjn
  have hjI : (j : Int) < (n : Int) := by omega
  have HRW := hid (show Fs.raw f (4, nn, tt, xx) = (Fs.swp (f.1, Fs.wout f.2.1 nn, f.2.2), 0) by unfold Fs.raw; simp only; rw [if_neg (by decide), if_neg (by decide), if_neg hs', if_neg (by decide), if_neg (by decide)])
  have HGD := hid (Fs.wout_good h.dir nn)
  have HWO := hid (fun wx (hx : Ext w wx) => without_any f.2.1 nn DA m dc wx hm.symm (h2.keep hx) (by omega))
  obtain ⟨LW, hLW⟩ : ∃ L, L = Fs.wout f.2.1 nn := ⟨_, rfl⟩
  rw [← hLW] at HGD HWO HRW
  obtain ⟨m5, hm5⟩ : ∃ m5, m5 = LW.length := ⟨_, rfl⟩
  have HM5 := hid hm5
  rw [← hm5] at HWO
  clear hb h1 h2 h3 k1 k2 k3 z1 z2 z3 hp hn hm hq h hs ht hx hc h0 h24 hmn hqn hs' hj hjn hLW hm5
  go_enter Tryd.func16, Tryd.ntmps16
  go_upto_region 1 with fail
  refine wp_gen (fun w' => Ext w w' ∧ Blk w' w.heap.size 25 #[.slice NA n nc, .slice DA m dc, .slice SA q sc] ∧ Blk w' (w.heap.size + 1) 27 #[.int .i64 4, .string nn, .string tt, .string xx] ∧ Blk w' (w.heap.size + 1 + 1) 25 #[.slice none 0 0, .slice none 0 0, .slice none 0 0]) ⟨(((ext_refl _).new _).new _).new _, ((Blk.new _ _ _).alloc _).alloc _, (Blk.newAt (by simp)).alloc _, Blk.newAt (by simp)⟩ ?_
  rintro wz ⟨B0, B1, B2, B3⟩
  have XZ : Hid (Ext w wz) := hid B0
  have F1 := hid B1
  have F2 := hid B2
  have F3 := hid B3
  have p0 := B1.cell 0
  have p1 := B1.cell 1
  have p2 := B1.cell 2
  clear B0 B1 B2 B3
  go_wp2_with fail
  refine Calls.mono (HCK.out _ XZ.out) ?_
  rintro e w1 ⟨rfl, hx⟩
  replace XZ : Hid (Ext w w1) := hid (XZ.out.then hx)
  replace F1 := hid (F1.out.keep hx)
  replace F2 := hid (F2.out.keep hx)
  replace F3 := hid (F3.out.keep hx)
  clear hx p0 p1 p2
  have o0 := F2.out.cell 0
  have o1 := F2.out.cell 1
  have o2 := F2.out.cell 2
  have o3 := F2.out.cell 3
  go_wp2_with fail
  refine Calls.mono (HFM.out _) ?_
  rintro e w2 ⟨rfl, hx⟩
  replace XZ : Hid (Ext w w2) := hid (XZ.out.then hx)
  replace F1 := hid (F1.out.keep hx)
  replace F2 := hid (F2.out.keep hx)
  replace F3 := hid (F3.out.keep hx)
  clear hx o0 o1 o2 o3
  have g0 := F1.out.cell 0
  have g1 := F1.out.cell 1
  have g2 := F1.out.cell 2
  go_upto_region 6 with fail
  refine Code.wp_mono (Q := fun e a w' => e = .normal ∧ ∃ (g gx : Nat) (A1 : Option Addr) (c1 : Nat), a = ⟨#[.agg #[.slice NA n nc, .slice DA m dc, .slice SA q sc], .agg #[.int .i64 4, .string nn, .string tt, .string xx], .pointer (some ⟨w.heap.size, 0, none⟩), .pointer (some ⟨w.heap.size + 1, 0, none⟩), .pointer (some ⟨w.heap.size + 1 + 1, 0, none⟩), .int .i64 0, .int .i64 0, .pointer (some ⟨g, 0, none⟩), undef, .agg #[.slice NA n nc, .slice DA m dc, .slice SA q sc], .int .i64 0, .int .i64 0, .bool true, .agg #[.int .i64 4, .string nn, .string tt, .string xx], .int .i64 0, .int .i64 0, .bool false, undef, undef, .slice (some ⟨gx, 0, none⟩) 0 0, .pointer (some ⟨w.heap.size, 0, none⟩), .slice NA n nc, .slice A1 n c1, .pointer (some ⟨w.heap.size, 1, none⟩), .slice DA m dc, .pointer (some ⟨w.heap.size, 2, none⟩), .slice SA q sc, .agg #[.slice A1 n c1, .slice DA m dc, .slice SA q sc], undef, undef, undef, undef, undef, undef, undef, undef, undef, undef, undef, undef, undef, undef, undef, undef, undef, undef, undef, undef, undef, undef, undef, undef, undef, undef, undef, undef, undef, undef, undef, undef, undef, undef, undef, undef, undef, undef, undef, undef, undef, undef, undef, undef, undef, undef, undef, undef, undef, undef, undef, undef, undef, undef, undef, undef, undef, undef, undef, undef, undef, undef, undef, undef, undef, undef, undef, undef, undef, undef, undef, undef, undef, undef, undef, undef, undef, undef, undef, undef, undef, undef, undef, undef, undef, undef, undef, undef], []⟩ ∧ Hid (Ext w2 w') ∧ Hid (w2.heap.size ≤ g) ∧ Hid (Blk w' g 25 #[.slice A1 n c1, .slice DA m dc, .slice SA q sc]) ∧ Hid (w'.ownsRow w2.heap.size 49 2 (.slice A1 n c1) n (nds f.1))) ?_ ?_
  rotate_left
  · have g0r := cell_regrown g0
    have g1r := cell_regrown g1
    have g2r := cell_regrown g2
    refine wp_region_tree (.one 1 true (.one 2 true (.one 4 true (.one 5 true (.one 6 true (.one 7 true (.two 0 9 (.two 3 9 (.one 8 true (.one 9 false (.one 10 false (.nil)))) (.one 3 false (.one 8 true (.one 10 false (.nil))))) (.one 0 false (.one 3 false (.one 8 true (.one 10 false (.nil)))))))))))) (by kernel_rfl) (by kernel_rfl) (by rintro _ _ _ _ _ ⟨h, _⟩; cases h) (by kernel_rfl) (by rfl) ?_
    simp only [fillT, List.getD_cons_zero, List.getD_cons_succ]
    have Y0 : Ext w2 w2.drew := (ext_refl w2).draw
    generalize w2.drew = y0 at Y0 ⊢
    repeat (refine wpTO_val (by rfl) ?_; intro K hK; go_big_quiet_op; go_big_quiet_on)
    refine wpTO_two ?_ ?_
    · refine wpTO_do (by rfl) ?_
      intro K hK
      go_simp
      have O1 : (y0.alloc (.cells #[] 49)).ownsRow w2.heap.size 49 2 (.slice (some ⟨y0.heap.size, 0, none⟩) 0 0) 0 (nds []) := own_new (C := #[]) rfl rfl (Y0).size (Nat.zero_le _)
      have Y1 := Ext.new Y0 (.cells #[] 49)
      generalize y0.alloc (.cells #[] 49) = y1 at *
      generalize y0.heap.size = gx at *
      refine hK _ _ Y1 ?_
      clear K hK
      refine wpTO_two ?_ ?_
      · refine wpTO_do (by rfl) ?_
        intro K hK
        refine wp_app (.tmp 19) (.tmp 21) rowNo rfl _ 0 (nds []) rfl O1 _ n (nds f.1) rfl (Src.rd Tryd.underlying22 _ n nc _ (by rw [nds_len, HN.out]) (HR1.out.keep (XZ.out.then Y1)) (nds_one _) HZ1.out) (by have := HL24.out; simp only [maxLen] at *; omega) (by have := HL24.out; omega) (Y1).size ?_
        intro v' y2 hown9 hgrow hat hbel
        rw [Nat.zero_add] at hown9
        have Y2 : Ext w2 y2 := Below.trans Y1 hbel
        clear O1
        have O1 : y2.ownsRow w2.heap.size 49 2 v' n (nds f.1) := hown9
        clear hown9
        obtain ⟨A1, c1, rfl, _, _, _, _⟩ := Rd.owned O1
        refine hK _ _ Y2 ?_
        clear K hK hgrow hat hbel
        simp only [Act.put, List.setIfInBounds_toArray, List.set_cons_zero, List.set_cons_succ]
        repeat (refine wpTO_val (by rfl) ?_; intro K hK; go_big_quiet_op; go_big_quiet_on)
        refine wpTO_do (by rfl) ?_
        intro K hK
        go_simp
        replace O1 := own_ext O1 (Ext.new (ext_refl y2) (.cells #[.slice none 0 0, .slice none 0 0, .slice none 0 0] 25))
        have BG := Blk.new y2 25 #[.slice none 0 0, .slice none 0 0, .slice none 0 0]
        have Y3 := Ext.new Y2 (.cells #[.slice none 0 0, .slice none 0 0, .slice none 0 0] 25)
        have hgs := (Y2).size
        obtain ⟨g, hg⟩ : ∃ g, g = (y2 : World).heap.size := ⟨_, rfl⟩
        rw [← hg] at BG hgs ⊢
        generalize (y2 : World).alloc (.cells #[.slice none 0 0, .slice none 0 0, .slice none 0 0] 25) = y3 at *
        refine hK _ _ Y3 ?_
        clear K hK hg
        have q0 := BG.cell 0
        have q1 := BG.cell 1
        have q2 := BG.cell 2
        have f0 := BG.frozen 0
        have f1 := BG.frozen 1
        have f2 := BG.frozen 2
        refine wpTO_do (by rfl) ?_
        intro K hK
        go_simp
        refine hK _ _ (Ext.put (Ext.put (Ext.put Y3 (p := ⟨g, 0, none⟩) hgs (.slice A1 n c1)) (p := ⟨g, 1, none⟩) hgs (.slice DA m dc)) (p := ⟨g, 2, none⟩) hgs (.slice SA q sc)) ?_
        clear K hK
        refine wpTO_nil ?_
        refine ⟨rfl, g, gx, A1, c1, rfl, hid (Ext.put (Ext.put (Ext.put Y3 (p := ⟨g, 0, none⟩) hgs (.slice A1 n c1)) (p := ⟨g, 1, none⟩) hgs (.slice DA m dc)) (p := ⟨g, 2, none⟩) hgs (.slice SA q sc)), hid hgs, hid ((((BG.set 0 (.slice A1 n c1)).set 1 (.slice DA m dc)).set 2 (.slice SA q sc)).cast (by simp)), hid ?_⟩
        exact own_put (own_put (own_put O1 (p := ⟨g, 0, none⟩) (own_nblk O1 BG (by decide)) _) (p := ⟨g, 1, none⟩) (own_nblk O1 BG (by decide)) _) (p := ⟨g, 2, none⟩) (own_nblk O1 BG (by decide)) _
      · refine wpTO_do (by rfl) ?_
        intro K hK
        go_simp
        replace O1 := own_ext O1 (Ext.new (ext_refl y1) (.cells #[.slice none 0 0, .slice none 0 0, .slice none 0 0] 25))
        have BG := Blk.new y1 25 #[.slice none 0 0, .slice none 0 0, .slice none 0 0]
        have Y4 := Ext.new Y1 (.cells #[.slice none 0 0, .slice none 0 0, .slice none 0 0] 25)
        have hgs := (Y1).size
        obtain ⟨g, hg⟩ : ∃ g, g = (y1 : World).heap.size := ⟨_, rfl⟩
        rw [← hg] at BG hgs ⊢
        generalize (y1 : World).alloc (.cells #[.slice none 0 0, .slice none 0 0, .slice none 0 0] 25) = y4 at *
        refine hK _ _ Y4 ?_
        clear K hK hg
        refine wpTO_do (by rfl) ?_
        intro K hK
        refine wp_app (.tmp 19) (.tmp 21) rowNo rfl _ 0 (nds []) rfl O1 _ n (nds f.1) rfl (Src.rd Tryd.underlying22 _ n nc _ (by rw [nds_len, HN.out]) (HR1.out.keep (XZ.out.then Y4)) (nds_one _) HZ1.out) (by have := HL24.out; simp only [maxLen] at *; omega) (by have := HL24.out; omega) (Y4).size ?_
        intro v' y5 hown9 hgrow hat hbel
        rw [Nat.zero_add] at hown9
        have Y5 : Ext w2 y5 := Below.trans Y4 hbel
        replace BG := Blk.grown BG hgrow (own_nblk O1 BG (by decide))
        clear O1
        have O1 : y5.ownsRow w2.heap.size 49 2 v' n (nds f.1) := hown9
        clear hown9
        obtain ⟨A1, c1, rfl, _, _, _, _⟩ := Rd.owned O1
        refine hK _ _ Y5 ?_
        clear K hK hgrow hat hbel
        simp only [Act.put, List.setIfInBounds_toArray, List.set_cons_zero, List.set_cons_succ]
        repeat (refine wpTO_val (by rfl) ?_; intro K hK; go_big_quiet_op; go_big_quiet_on)
        have q0 := BG.cell 0
        have q1 := BG.cell 1
        have q2 := BG.cell 2
        have f0 := BG.frozen 0
        have f1 := BG.frozen 1
        have f2 := BG.frozen 2
        refine wpTO_do (by rfl) ?_
        intro K hK
        go_simp
        refine hK _ _ (Ext.put (Ext.put (Ext.put Y5 (p := ⟨g, 0, none⟩) hgs (.slice A1 n c1)) (p := ⟨g, 1, none⟩) hgs (.slice DA m dc)) (p := ⟨g, 2, none⟩) hgs (.slice SA q sc)) ?_
        clear K hK
        refine wpTO_nil ?_
        refine ⟨rfl, g, gx, A1, c1, rfl, hid (Ext.put (Ext.put (Ext.put Y5 (p := ⟨g, 0, none⟩) hgs (.slice A1 n c1)) (p := ⟨g, 1, none⟩) hgs (.slice DA m dc)) (p := ⟨g, 2, none⟩) hgs (.slice SA q sc)), hid hgs, hid ((((BG.set 0 (.slice A1 n c1)).set 1 (.slice DA m dc)).set 2 (.slice SA q sc)).cast (by simp)), hid ?_⟩
        exact own_put (own_put (own_put O1 (p := ⟨g, 0, none⟩) (own_nblk O1 BG (by decide)) _) (p := ⟨g, 1, none⟩) (own_nblk O1 BG (by decide)) _) (p := ⟨g, 2, none⟩) (own_nblk O1 BG (by decide)) _
    · refine wpTO_do (by rfl) ?_
      intro K hK
      go_simp
      have BG := Blk.new y0 25 #[.slice none 0 0, .slice none 0 0, .slice none 0 0]
      have Y6 := Ext.new Y0 (.cells #[.slice none 0 0, .slice none 0 0, .slice none 0 0] 25)
      have hgs := (Y0).size
      obtain ⟨g, hg⟩ : ∃ g, g = (y0 : World).heap.size := ⟨_, rfl⟩
      rw [← hg] at BG hgs ⊢
      generalize (y0 : World).alloc (.cells #[.slice none 0 0, .slice none 0 0, .slice none 0 0] 25) = y6 at *
      refine hK _ _ Y6 ?_
      clear K hK hg
      refine wpTO_do (by rfl) ?_
      intro K hK
      go_simp
      replace BG := Blk.keep BG (Ext.new (ext_refl y6) (.cells #[] 49))
      have O1 : (y6.alloc (.cells #[] 49)).ownsRow w2.heap.size 49 2 (.slice (some ⟨y6.heap.size, 0, none⟩) 0 0) 0 (nds []) := own_new (C := #[]) rfl rfl (Y6).size (Nat.zero_le _)
      have Y7 := Ext.new Y6 (.cells #[] 49)
      generalize y6.alloc (.cells #[] 49) = y7 at *
      generalize y6.heap.size = gx at *
      refine hK _ _ Y7 ?_
      clear K hK
      refine wpTO_do (by rfl) ?_
      intro K hK
      refine wp_app (.tmp 19) (.tmp 21) rowNo rfl _ 0 (nds []) rfl O1 _ n (nds f.1) rfl (Src.rd Tryd.underlying22 _ n nc _ (by rw [nds_len, HN.out]) (HR1.out.keep (XZ.out.then Y7)) (nds_one _) HZ1.out) (by have := HL24.out; simp only [maxLen] at *; omega) (by have := HL24.out; omega) (Y7).size ?_
      intro v' y8 hown9 hgrow hat hbel
      rw [Nat.zero_add] at hown9
      have Y8 : Ext w2 y8 := Below.trans Y7 hbel
      replace BG := Blk.grown BG hgrow (own_nblk O1 BG (by decide))
      clear O1
      have O1 : y8.ownsRow w2.heap.size 49 2 v' n (nds f.1) := hown9
      clear hown9
      obtain ⟨A1, c1, rfl, _, _, _, _⟩ := Rd.owned O1
      refine hK _ _ Y8 ?_
      clear K hK hgrow hat hbel
      simp only [Act.put, List.setIfInBounds_toArray, List.set_cons_zero, List.set_cons_succ]
      repeat (refine wpTO_val (by rfl) ?_; intro K hK; go_big_quiet_op; go_big_quiet_on)
      have q0 := BG.cell 0
      have q1 := BG.cell 1
      have q2 := BG.cell 2
      have f0 := BG.frozen 0
      have f1 := BG.frozen 1
      have f2 := BG.frozen 2
      refine wpTO_do (by rfl) ?_
      intro K hK
      go_simp
      refine hK _ _ (Ext.put (Ext.put (Ext.put Y8 (p := ⟨g, 0, none⟩) hgs (.slice A1 n c1)) (p := ⟨g, 1, none⟩) hgs (.slice DA m dc)) (p := ⟨g, 2, none⟩) hgs (.slice SA q sc)) ?_
      clear K hK
      refine wpTO_nil ?_
      refine ⟨rfl, g, gx, A1, c1, rfl, hid (Ext.put (Ext.put (Ext.put Y8 (p := ⟨g, 0, none⟩) hgs (.slice A1 n c1)) (p := ⟨g, 1, none⟩) hgs (.slice DA m dc)) (p := ⟨g, 2, none⟩) hgs (.slice SA q sc)), hid hgs, hid ((((BG.set 0 (.slice A1 n c1)).set 1 (.slice DA m dc)).set 2 (.slice SA q sc)).cast (by simp)), hid ?_⟩
      exact own_put (own_put (own_put O1 (p := ⟨g, 0, none⟩) (own_nblk O1 BG (by decide)) _) (p := ⟨g, 1, none⟩) (own_nblk O1 BG (by decide)) _) (p := ⟨g, 2, none⟩) (own_nblk O1 BG (by decide)) _

  rintro e a y ⟨rfl, g, gx, A1, c1, rfl, XY, HGS, BG, O1⟩
  have HWS := hid (show w.heap.size + 3 ≤ w2.heap.size by have := F3.out.lt; omega)
  replace HGS := hid (show w.heap.size + 3 ≤ g from Nat.le_trans HWS.out HGS.out)
  replace O1 := hid (own_low' O1.out HWS.out)
  replace F1 := hid (F1.out.keep XY.out)
  replace F2 := hid (F2.out.keep XY.out)
  replace F3 := hid (F3.out.keep XY.out)
  replace XZ : Hid (Ext w y) := hid (XZ.out.then XY.out)
  replace HWS := hid (show w.heap.size + 3 ≤ y.heap.size from Nat.le_trans HWS.out XY.out.size)
  clear XY g0 g1 g2
  have g0 := F1.out.cell 0
  have g1 := F1.out.cell 1
  have g2 := F1.out.cell 2
  have o0 := F2.out.cell 0
  have o1 := F2.out.cell 1
  have o2 := F2.out.cell 2
  have o3 := F2.out.cell 3
  have u0 := BG.out.cell 0
  have u1 := BG.out.cell 1
  have u2 := BG.out.cell 2
  have t0 := F3.out.cell 0
  have t1 := F3.out.cell 1
  have t2 := F3.out.cell 2
  have x0 := F3.out.frozen 0
  have x1 := F3.out.frozen 1
  have x2 := F3.out.frozen 2
  have hgr : ¬ w.heap.size + 1 + 1 = g := by have := HGS.out; omega
  have hgr2 : ¬ g = w.heap.size + 1 + 1 := by have := HGS.out; omega
  have hgs0 : ¬ w.heap.size = g := by have := HGS.out; omega
  have hgs1 : ¬ w.heap.size + 1 = g := by have := HGS.out; omega
  have fg0 := BG.out.frozen 0
  have fg1 := BG.out.frozen 1
  have fg2 := BG.out.frozen 2
  go_wp2_with fail
  refine (HND.out _ XZ.out).mono ?_
  rintro e w4 ⟨rfl, rfl⟩
  go_wp2_with fail
  refine (HWO.out _ XZ.out).mono ?_
  rintro e w5 ⟨v5, rfl, ow, hx⟩
  obtain ⟨A5, c5, rfl, _, _, _, _⟩ := Rd.owned ow
  have O2 := hid (own_low' ow HWS.out)
  clear u0 u1 u2 t0 t1 t2 x0 x1 x2 fg0 fg1 fg2 g0 g1 g2 o0 o1 o2 o3
  have HSOLD := HWS
  replace XZ : Hid (Ext w w5) := hid (XZ.out.then hx)
  replace F1 := hid (F1.out.keep hx)
  replace F2 := hid (F2.out.keep hx)
  replace F3 := hid (F3.out.keep hx)
  replace BG := hid (BG.out.keep hx)
  replace O1 := hid (own_ext O1.out hx)
  replace HWS := hid (Nat.le_trans HWS.out (Ext.then (ext_refl _) hx).size)
  have u0 := BG.out.cell 0
  have u1 := BG.out.cell 1
  have u2 := BG.out.cell 2
  have t0 := F3.out.cell 0
  have t1 := F3.out.cell 1
  have t2 := F3.out.cell 2
  have x0 := F3.out.frozen 0
  have x1 := F3.out.frozen 1
  have x2 := F3.out.frozen 2
  have fg0 := BG.out.frozen 0
  have fg1 := BG.out.frozen 1
  have fg2 := BG.out.frozen 2
  have g0 := F1.out.cell 0
  have g1 := F1.out.cell 1
  have g2 := F1.out.cell 2
  have o0 := F2.out.cell 0
  have o1 := F2.out.cell 1
  have o2 := F2.out.cell 2
  have o3 := F2.out.cell 3
  clear ow hx
  go_wp2_with fail
  have Z1 := hid (Ext.put XZ.out (p := ⟨g, 1, none⟩) (by have := HGS.out; simp only; omega) (.slice A5 m5 c5))
  have Z3 := hid (F3.out.far (p := ⟨g, 1, none⟩) hgr (.slice A5 m5 c5))
  have ZG := hid ((BG.out.set 1 (.slice A5 m5 c5)).cast (cs' := #[.slice A1 n c1, .slice A5 m5 c5, .slice SA q sc]) (by simp))
  have FV := hid (FsV.mk' (f := (f.1, LW, f.2.2)) HN.out.symm HM5.out.symm HQ.out.symm (own_rd (own_put O1.out (p := ⟨g, 1, none⟩) (own_nblk O1.out BG.out (by decide)) (.slice A5 m5 c5))).1 (own_rd (own_put O2.out (p := ⟨g, 1, none⟩) (own_nblk O2.out BG.out (by decide)) (.slice A5 m5 c5))).1 (HR3.out.keep Z1.out) (own_rd O1.out).2.1 (own_rd O2.out).2.1 HZ3.out (c1 := c1) (c2 := c5) (c3 := sc))
  have HSZ := hid (size_put w5 ⟨g, 1, none⟩ (.slice A5 m5 c5))
  have u0 := ZG.out.cell 0
  have u1 := ZG.out.cell 1
  have u2 := ZG.out.cell 2
  have HSW := hid (sweptG (f.1, LW, f.2.2) _ _ FV.out HOK.out.few HGD.out HOK.out.syn)
  have HZS := hid (show w.heap.size + 3 ≤ _ from Nat.le_trans HWS.out (Nat.le_of_eq HSZ.out.symm))
  clear HWS
  refine Calls.mono HSW.out ?_
  rintro e w8 ⟨v8, rfl, hf8, hx8⟩
  have FO := hid (hf8.low HZS.out)
  have X8 : Hid (Ext w w8) := hid (Z1.out.then hx8)
  have F8 := hid (Z3.out.keep hx8)
  obtain ⟨S1, b1, S2, b2, S3, b3, rfl, _, _, _⟩ := hf8
  obtain ⟨FW, hFW⟩ : ∃ F, F = Fs.swp (f.1, LW, f.2.2) := ⟨_, rfl⟩
  rw [← hFW] at FO HRW ⊢
  obtain ⟨n8, hn8⟩ : ∃ n, n = FW.1.length := ⟨_, rfl⟩
  obtain ⟨m8, hm8⟩ : ∃ n, n = FW.2.1.length := ⟨_, rfl⟩
  obtain ⟨q8, hq8⟩ : ∃ n, n = FW.2.2.length := ⟨_, rfl⟩
  rw [← hn8, ← hm8, ← hq8] at FO
  rw [← hn8, ← hm8, ← hq8]
  have t0 := F8.out.cell 0
  have t1 := F8.out.cell 1
  have t2 := F8.out.cell 2
  have x0 := F8.out.frozen 0
  have x1 := F8.out.frozen 1
  have x2 := F8.out.frozen 2
  clear hx8 hFW hn8 hm8 hq8
  go_wp2
  have hne : w.heap.size + 1 + 1 < w.heap.size + 3 := by omega
  have HBF := hid ((((F8.out.set 0 (.slice S1 n8 b1)).set 1 (.slice S2 m8 b2)).set 2 (.slice S3 q8 b3)).cast (cs' := #[.slice S1 n8 b1, .slice S2 m8 b2, .slice S3 q8 b3]) (by simp))
  have XF := hid (Ext.put (Ext.put (Ext.put X8.out (p := ⟨w.heap.size + 1 + 1, 0, none⟩) (by simp only; omega) (.slice S1 n8 b1)) (p := ⟨w.heap.size + 1 + 1, 1, none⟩) (by simp only; omega) (.slice S2 m8 b2)) (p := ⟨w.heap.size + 1 + 1, 2, none⟩) (by simp only; omega) (.slice S3 q8 b3))
  refine bodyPost_ret (results_blk2 rfl _ _ (w.heap.size + 1 + 1) 25 _ _ rfl HBF.out Tryd.underlying25 rfl (by kernel_rfl)) rfl ?_
  refine ⟨_, by rw [HRW.out]; rfl, ?_, XF.out⟩
  rw [HRW.out]
  exact FsO.P (((FO.out.put (p := ⟨w.heap.size + 1 + 1, 0, none⟩) hne _).put (p := ⟨w.heap.size + 1 + 1, 1, none⟩) hne _).put (p := ⟨w.heap.size + 1 + 1, 2, none⟩) hne _) (fun b hb => HP.out b (by omega))
set_option maxHeartbeats 3200000 in
set_option maxRecDepth 100000 in
theorem doneOf_k2 (p : Nat → Prop) (f : Fs.FSy) (nn tt xx : ByteArray) (v : Value) (w : World) (hv : FsP p w v f) (hp : ∀ b, w.heap.size ≤ b → p b) (hb : Fs.FsB f) (h : Fs.Ok f) (hs : nn.size ≤ 140737488355328) (ht : tt.size ≤ 140737488355328) (hx : xx.size ≤ 140737488355328) (hc : Fs.opck (2, nn, tt, xx) = 0) (hs' : ¬ Fs.nof f.2.1 nn < 0) :
    Calls Tryd.prog 16 #[v, .agg #[.int .i64 2, .string nn, .string tt, .string xx]] w fun e w' => ∃ v', e = .returned (.tuple #[v', .int .i64 ((Fs.raw f (2, nn, tt, xx)).2 : Nat)]) ∧ FsP p w' v' (Fs.raw f (2, nn, tt, xx)).1 ∧ Ext w w' := by
  have HCK := hid (fun wx (hx : Ext w wx) => fsCheck_V f v wx (hv.V.keep hx) hb)
  obtain ⟨NA, nc, DA, dc, SA, sc, rfl, ⟨h1, h2, h3, z1, z2, z3⟩, k1, k2, k3⟩ := hv
  obtain ⟨n, hn⟩ : ∃ n, n = f.1.length := ⟨_, rfl⟩
  obtain ⟨m, hm⟩ : ∃ n, n = f.2.1.length := ⟨_, rfl⟩
  obtain ⟨q, hq⟩ : ∃ n, n = f.2.2.length := ⟨_, rfl⟩
  rw [← hn, ← hm, ← hq] at HCK ⊢
  rw [← hn] at k1 z1
  rw [← hm] at k2 z2
  rw [← hq] at k3 z3
  have HN := hid hn; have HM := hid hm; have HQ := hid hq
  have HR1 := hid h1; have HR2 := hid h2; have HR3 := hid h3
  have HK1 := hid k1; have HK2 := hid k2; have HK3 := hid k3
  have HZ1 := hid z1; have HZ2 := hid z2; have HZ3 := hid z3
  have HP := hid hp
  have HFM := hid (fun wx => opCheck_any 2 nn tt xx wx hs ht hx)
  rw [hc] at HFM
  have h0 := Fs.ok_iff.2 h
  rw [h0] at HCK
  have h24 := h.few
  have hmn := Fs.good_len h.dir
  have hqn := Fs.good_len h.syn
  have HOK := hid h
  have HOP := hid hc
  have HL24 := hid (show n ≤ 24 by omega)
  have HM24 := hid (show m ≤ 24 by omega)
  have HQ24 := hid (show q ≤ 24 by omega)
  have HND := hid (fun wx (hx : Ext w wx) => nodeOf_any f.2.1 nn DA m dc wx hm.symm (h2.keep hx) (by omega))
  have hnI : (n : Int) ≤ 24 := by omega
  have hmI : (m : Int) ≤ 24 := by omega
  obtain ⟨j, hj⟩ : ∃ j : Nat, Fs.nof f.2.1 nn = (j : Int) := ⟨(Fs.nof f.2.1 nn).toNat, by omega⟩
  have hjn : j < n := by have := Fs.nof_rng (Fs.dir_iff.2 h.dir) nn; omega
  rw [hj] at HND
  have HJN := hid hjn
  have hjI : (j : Int) < (n : Int) := by omega
  have HRW := hid (show Fs.raw f (2, nn, tt, xx) = (Fs.swp (Fs.synL f.1 j, f.2.1, f.2.2), 0) by unfold Fs.raw; simp only; rw [if_neg (by decide), if_neg (by decide), if_neg hs', if_pos trivial, hj, Int.toNat_natCast])
  clear hb h1 h2 h3 k1 k2 k3 z1 z2 z3 hp hn hm hq h hs ht hx hc h0 h24 hmn hqn hs' hj hjn
  go_enter Tryd.func16, Tryd.ntmps16
  go_upto_region 1 with fail
  refine wp_gen (fun w' => Ext w w' ∧ Blk w' w.heap.size 25 #[.slice NA n nc, .slice DA m dc, .slice SA q sc] ∧ Blk w' (w.heap.size + 1) 27 #[.int .i64 2, .string nn, .string tt, .string xx] ∧ Blk w' (w.heap.size + 1 + 1) 25 #[.slice none 0 0, .slice none 0 0, .slice none 0 0]) ⟨(((ext_refl _).new _).new _).new _, ((Blk.new _ _ _).alloc _).alloc _, (Blk.newAt (by simp)).alloc _, Blk.newAt (by simp)⟩ ?_
  rintro wz ⟨B0, B1, B2, B3⟩
  have XZ : Hid (Ext w wz) := hid B0
  have F1 := hid B1
  have F2 := hid B2
  have F3 := hid B3
  have p0 := B1.cell 0
  have p1 := B1.cell 1
  have p2 := B1.cell 2
  clear B0 B1 B2 B3
  go_wp2_with fail
  refine Calls.mono (HCK.out _ XZ.out) ?_
  rintro e w1 ⟨rfl, hx⟩
  replace XZ : Hid (Ext w w1) := hid (XZ.out.then hx)
  replace F1 := hid (F1.out.keep hx)
  replace F2 := hid (F2.out.keep hx)
  replace F3 := hid (F3.out.keep hx)
  clear hx p0 p1 p2
  have o0 := F2.out.cell 0
  have o1 := F2.out.cell 1
  have o2 := F2.out.cell 2
  have o3 := F2.out.cell 3
  go_wp2_with fail
  refine Calls.mono (HFM.out _) ?_
  rintro e w2 ⟨rfl, hx⟩
  replace XZ : Hid (Ext w w2) := hid (XZ.out.then hx)
  replace F1 := hid (F1.out.keep hx)
  replace F2 := hid (F2.out.keep hx)
  replace F3 := hid (F3.out.keep hx)
  clear hx o0 o1 o2 o3
  have g0 := F1.out.cell 0
  have g1 := F1.out.cell 1
  have g2 := F1.out.cell 2
  go_upto_region 6 with fail
  refine Code.wp_mono (Q := fun e a w' => e = .normal ∧ ∃ (g gx : Nat) (A1 : Option Addr) (c1 : Nat), a = ⟨#[.agg #[.slice NA n nc, .slice DA m dc, .slice SA q sc], .agg #[.int .i64 2, .string nn, .string tt, .string xx], .pointer (some ⟨w.heap.size, 0, none⟩), .pointer (some ⟨w.heap.size + 1, 0, none⟩), .pointer (some ⟨w.heap.size + 1 + 1, 0, none⟩), .int .i64 0, .int .i64 0, .pointer (some ⟨g, 0, none⟩), undef, .agg #[.slice NA n nc, .slice DA m dc, .slice SA q sc], .int .i64 0, .int .i64 0, .bool true, .agg #[.int .i64 2, .string nn, .string tt, .string xx], .int .i64 0, .int .i64 0, .bool false, undef, undef, .slice (some ⟨gx, 0, none⟩) 0 0, .pointer (some ⟨w.heap.size, 0, none⟩), .slice NA n nc, .slice A1 n c1, .pointer (some ⟨w.heap.size, 1, none⟩), .slice DA m dc, .pointer (some ⟨w.heap.size, 2, none⟩), .slice SA q sc, .agg #[.slice A1 n c1, .slice DA m dc, .slice SA q sc], undef, undef, undef, undef, undef, undef, undef, undef, undef, undef, undef, undef, undef, undef, undef, undef, undef, undef, undef, undef, undef, undef, undef, undef, undef, undef, undef, undef, undef, undef, undef, undef, undef, undef, undef, undef, undef, undef, undef, undef, undef, undef, undef, undef, undef, undef, undef, undef, undef, undef, undef, undef, undef, undef, undef, undef, undef, undef, undef, undef, undef, undef, undef, undef, undef, undef, undef, undef, undef, undef, undef, undef, undef, undef, undef, undef, undef, undef, undef, undef, undef, undef, undef, undef, undef, undef, undef, undef], []⟩ ∧ Hid (Ext w2 w') ∧ Hid (w2.heap.size ≤ g) ∧ Hid (Blk w' g 25 #[.slice A1 n c1, .slice DA m dc, .slice SA q sc]) ∧ Hid (w'.ownsRow w2.heap.size 49 2 (.slice A1 n c1) n (nds f.1))) ?_ ?_
  rotate_left
  · have g0r := cell_regrown g0
    have g1r := cell_regrown g1
    have g2r := cell_regrown g2
    refine wp_region_tree (.one 1 true (.one 2 true (.one 4 true (.one 5 true (.one 6 true (.one 7 true (.two 0 9 (.two 3 9 (.one 8 true (.one 9 false (.one 10 false (.nil)))) (.one 3 false (.one 8 true (.one 10 false (.nil))))) (.one 0 false (.one 3 false (.one 8 true (.one 10 false (.nil)))))))))))) (by kernel_rfl) (by kernel_rfl) (by rintro _ _ _ _ _ ⟨h, _⟩; cases h) (by kernel_rfl) (by rfl) ?_
    simp only [fillT, List.getD_cons_zero, List.getD_cons_succ]
    have Y0 : Ext w2 w2.drew := (ext_refl w2).draw
    generalize w2.drew = y0 at Y0 ⊢
    repeat (refine wpTO_val (by rfl) ?_; intro K hK; go_big_quiet_op; go_big_quiet_on)
    refine wpTO_two ?_ ?_
    · refine wpTO_do (by rfl) ?_
      intro K hK
      go_simp
      have O1 : (y0.alloc (.cells #[] 49)).ownsRow w2.heap.size 49 2 (.slice (some ⟨y0.heap.size, 0, none⟩) 0 0) 0 (nds []) := own_new (C := #[]) rfl rfl (Y0).size (Nat.zero_le _)
      have Y1 := Ext.new Y0 (.cells #[] 49)
      generalize y0.alloc (.cells #[] 49) = y1 at *
      generalize y0.heap.size = gx at *
      refine hK _ _ Y1 ?_
      clear K hK
      refine wpTO_two ?_ ?_
      · refine wpTO_do (by rfl) ?_
        intro K hK
        refine wp_app (.tmp 19) (.tmp 21) rowNo rfl _ 0 (nds []) rfl O1 _ n (nds f.1) rfl (Src.rd Tryd.underlying22 _ n nc _ (by rw [nds_len, HN.out]) (HR1.out.keep (XZ.out.then Y1)) (nds_one _) HZ1.out) (by have := HL24.out; simp only [maxLen] at *; omega) (by have := HL24.out; omega) (Y1).size ?_
        intro v' y2 hown9 hgrow hat hbel
        rw [Nat.zero_add] at hown9
        have Y2 : Ext w2 y2 := Below.trans Y1 hbel
        clear O1
        have O1 : y2.ownsRow w2.heap.size 49 2 v' n (nds f.1) := hown9
        clear hown9
        obtain ⟨A1, c1, rfl, _, _, _, _⟩ := Rd.owned O1
        refine hK _ _ Y2 ?_
        clear K hK hgrow hat hbel
        simp only [Act.put, List.setIfInBounds_toArray, List.set_cons_zero, List.set_cons_succ]
        repeat (refine wpTO_val (by rfl) ?_; intro K hK; go_big_quiet_op; go_big_quiet_on)
        refine wpTO_do (by rfl) ?_
        intro K hK
        go_simp
        replace O1 := own_ext O1 (Ext.new (ext_refl y2) (.cells #[.slice none 0 0, .slice none 0 0, .slice none 0 0] 25))
        have BG := Blk.new y2 25 #[.slice none 0 0, .slice none 0 0, .slice none 0 0]
        have Y3 := Ext.new Y2 (.cells #[.slice none 0 0, .slice none 0 0, .slice none 0 0] 25)
        have hgs := (Y2).size
        obtain ⟨g, hg⟩ : ∃ g, g = (y2 : World).heap.size := ⟨_, rfl⟩
        rw [← hg] at BG hgs ⊢
        generalize (y2 : World).alloc (.cells #[.slice none 0 0, .slice none 0 0, .slice none 0 0] 25) = y3 at *
        refine hK _ _ Y3 ?_
        clear K hK hg
        have q0 := BG.cell 0
        have q1 := BG.cell 1
        have q2 := BG.cell 2
        have f0 := BG.frozen 0
        have f1 := BG.frozen 1
        have f2 := BG.frozen 2
        refine wpTO_do (by rfl) ?_
        intro K hK
        go_simp
        refine hK _ _ (Ext.put (Ext.put (Ext.put Y3 (p := ⟨g, 0, none⟩) hgs (.slice A1 n c1)) (p := ⟨g, 1, none⟩) hgs (.slice DA m dc)) (p := ⟨g, 2, none⟩) hgs (.slice SA q sc)) ?_
        clear K hK
        refine wpTO_nil ?_
        refine ⟨rfl, g, gx, A1, c1, rfl, hid (Ext.put (Ext.put (Ext.put Y3 (p := ⟨g, 0, none⟩) hgs (.slice A1 n c1)) (p := ⟨g, 1, none⟩) hgs (.slice DA m dc)) (p := ⟨g, 2, none⟩) hgs (.slice SA q sc)), hid hgs, hid ((((BG.set 0 (.slice A1 n c1)).set 1 (.slice DA m dc)).set 2 (.slice SA q sc)).cast (by simp)), hid ?_⟩
        exact own_put (own_put (own_put O1 (p := ⟨g, 0, none⟩) (own_nblk O1 BG (by decide)) _) (p := ⟨g, 1, none⟩) (own_nblk O1 BG (by decide)) _) (p := ⟨g, 2, none⟩) (own_nblk O1 BG (by decide)) _
      · refine wpTO_do (by rfl) ?_
        intro K hK
        go_simp
        replace O1 := own_ext O1 (Ext.new (ext_refl y1) (.cells #[.slice none 0 0, .slice none 0 0, .slice none 0 0] 25))
        have BG := Blk.new y1 25 #[.slice none 0 0, .slice none 0 0, .slice none 0 0]
        have Y4 := Ext.new Y1 (.cells #[.slice none 0 0, .slice none 0 0, .slice none 0 0] 25)
        have hgs := (Y1).size
        obtain ⟨g, hg⟩ : ∃ g, g = (y1 : World).heap.size := ⟨_, rfl⟩
        rw [← hg] at BG hgs ⊢
        generalize (y1 : World).alloc (.cells #[.slice none 0 0, .slice none 0 0, .slice none 0 0] 25) = y4 at *
        refine hK _ _ Y4 ?_
        clear K hK hg
        refine wpTO_do (by rfl) ?_
        intro K hK
        refine wp_app (.tmp 19) (.tmp 21) rowNo rfl _ 0 (nds []) rfl O1 _ n (nds f.1) rfl (Src.rd Tryd.underlying22 _ n nc _ (by rw [nds_len, HN.out]) (HR1.out.keep (XZ.out.then Y4)) (nds_one _) HZ1.out) (by have := HL24.out; simp only [maxLen] at *; omega) (by have := HL24.out; omega) (Y4).size ?_
        intro v' y5 hown9 hgrow hat hbel
        rw [Nat.zero_add] at hown9
        have Y5 : Ext w2 y5 := Below.trans Y4 hbel
        replace BG := Blk.grown BG hgrow (own_nblk O1 BG (by decide))
        clear O1
        have O1 : y5.ownsRow w2.heap.size 49 2 v' n (nds f.1) := hown9
        clear hown9
        obtain ⟨A1, c1, rfl, _, _, _, _⟩ := Rd.owned O1
        refine hK _ _ Y5 ?_
        clear K hK hgrow hat hbel
        simp only [Act.put, List.setIfInBounds_toArray, List.set_cons_zero, List.set_cons_succ]
        repeat (refine wpTO_val (by rfl) ?_; intro K hK; go_big_quiet_op; go_big_quiet_on)
        have q0 := BG.cell 0
        have q1 := BG.cell 1
        have q2 := BG.cell 2
        have f0 := BG.frozen 0
        have f1 := BG.frozen 1
        have f2 := BG.frozen 2
        refine wpTO_do (by rfl) ?_
        intro K hK
        go_simp
        refine hK _ _ (Ext.put (Ext.put (Ext.put Y5 (p := ⟨g, 0, none⟩) hgs (.slice A1 n c1)) (p := ⟨g, 1, none⟩) hgs (.slice DA m dc)) (p := ⟨g, 2, none⟩) hgs (.slice SA q sc)) ?_
        clear K hK
        refine wpTO_nil ?_
        refine ⟨rfl, g, gx, A1, c1, rfl, hid (Ext.put (Ext.put (Ext.put Y5 (p := ⟨g, 0, none⟩) hgs (.slice A1 n c1)) (p := ⟨g, 1, none⟩) hgs (.slice DA m dc)) (p := ⟨g, 2, none⟩) hgs (.slice SA q sc)), hid hgs, hid ((((BG.set 0 (.slice A1 n c1)).set 1 (.slice DA m dc)).set 2 (.slice SA q sc)).cast (by simp)), hid ?_⟩
        exact own_put (own_put (own_put O1 (p := ⟨g, 0, none⟩) (own_nblk O1 BG (by decide)) _) (p := ⟨g, 1, none⟩) (own_nblk O1 BG (by decide)) _) (p := ⟨g, 2, none⟩) (own_nblk O1 BG (by decide)) _
    · refine wpTO_do (by rfl) ?_
      intro K hK
      go_simp
      have BG := Blk.new y0 25 #[.slice none 0 0, .slice none 0 0, .slice none 0 0]
      have Y6 := Ext.new Y0 (.cells #[.slice none 0 0, .slice none 0 0, .slice none 0 0] 25)
      have hgs := (Y0).size
      obtain ⟨g, hg⟩ : ∃ g, g = (y0 : World).heap.size := ⟨_, rfl⟩
      rw [← hg] at BG hgs ⊢
      generalize (y0 : World).alloc (.cells #[.slice none 0 0, .slice none 0 0, .slice none 0 0] 25) = y6 at *
      refine hK _ _ Y6 ?_
      clear K hK hg
      refine wpTO_do (by rfl) ?_
      intro K hK
      go_simp
      replace BG := Blk.keep BG (Ext.new (ext_refl y6) (.cells #[] 49))
      have O1 : (y6.alloc (.cells #[] 49)).ownsRow w2.heap.size 49 2 (.slice (some ⟨y6.heap.size, 0, none⟩) 0 0) 0 (nds []) := own_new (C := #[]) rfl rfl (Y6).size (Nat.zero_le _)
      have Y7 := Ext.new Y6 (.cells #[] 49)
      generalize y6.alloc (.cells #[] 49) = y7 at *
      generalize y6.heap.size = gx at *
      refine hK _ _ Y7 ?_
      clear K hK
      refine wpTO_do (by rfl) ?_
      intro K hK
      refine wp_app (.tmp 19) (.tmp 21) rowNo rfl _ 0 (nds []) rfl O1 _ n (nds f.1) rfl (Src.rd Tryd.underlying22 _ n nc _ (by rw [nds_len, HN.out]) (HR1.out.keep (XZ.out.then Y7)) (nds_one _) HZ1.out) (by have := HL24.out; simp only [maxLen] at *; omega) (by have := HL24.out; omega) (Y7).size ?_
      intro v' y8 hown9 hgrow hat hbel
      rw [Nat.zero_add] at hown9
      have Y8 : Ext w2 y8 := Below.trans Y7 hbel
      replace BG := Blk.grown BG hgrow (own_nblk O1 BG (by decide))
      clear O1
      have O1 : y8.ownsRow w2.heap.size 49 2 v' n (nds f.1) := hown9
      clear hown9
      obtain ⟨A1, c1, rfl, _, _, _, _⟩ := Rd.owned O1
      refine hK _ _ Y8 ?_
      clear K hK hgrow hat hbel
      simp only [Act.put, List.setIfInBounds_toArray, List.set_cons_zero, List.set_cons_succ]
      repeat (refine wpTO_val (by rfl) ?_; intro K hK; go_big_quiet_op; go_big_quiet_on)
      have q0 := BG.cell 0
      have q1 := BG.cell 1
      have q2 := BG.cell 2
      have f0 := BG.frozen 0
      have f1 := BG.frozen 1
      have f2 := BG.frozen 2
      refine wpTO_do (by rfl) ?_
      intro K hK
      go_simp
      refine hK _ _ (Ext.put (Ext.put (Ext.put Y8 (p := ⟨g, 0, none⟩) hgs (.slice A1 n c1)) (p := ⟨g, 1, none⟩) hgs (.slice DA m dc)) (p := ⟨g, 2, none⟩) hgs (.slice SA q sc)) ?_
      clear K hK
      refine wpTO_nil ?_
      refine ⟨rfl, g, gx, A1, c1, rfl, hid (Ext.put (Ext.put (Ext.put Y8 (p := ⟨g, 0, none⟩) hgs (.slice A1 n c1)) (p := ⟨g, 1, none⟩) hgs (.slice DA m dc)) (p := ⟨g, 2, none⟩) hgs (.slice SA q sc)), hid hgs, hid ((((BG.set 0 (.slice A1 n c1)).set 1 (.slice DA m dc)).set 2 (.slice SA q sc)).cast (by simp)), hid ?_⟩
      exact own_put (own_put (own_put O1 (p := ⟨g, 0, none⟩) (own_nblk O1 BG (by decide)) _) (p := ⟨g, 1, none⟩) (own_nblk O1 BG (by decide)) _) (p := ⟨g, 2, none⟩) (own_nblk O1 BG (by decide)) _

  rintro e a y ⟨rfl, g, gx, A1, c1, rfl, XY, HGS, BG, O1⟩
  have HWS := hid (show w.heap.size + 3 ≤ w2.heap.size by have := F3.out.lt; omega)
  replace HGS := hid (show w.heap.size + 3 ≤ g from Nat.le_trans HWS.out HGS.out)
  replace O1 := hid (own_low' O1.out HWS.out)
  replace F1 := hid (F1.out.keep XY.out)
  replace F2 := hid (F2.out.keep XY.out)
  replace F3 := hid (F3.out.keep XY.out)
  replace XZ : Hid (Ext w y) := hid (XZ.out.then XY.out)
  replace HWS := hid (show w.heap.size + 3 ≤ y.heap.size from Nat.le_trans HWS.out XY.out.size)
  clear XY g0 g1 g2
  have g0 := F1.out.cell 0
  have g1 := F1.out.cell 1
  have g2 := F1.out.cell 2
  have o0 := F2.out.cell 0
  have o1 := F2.out.cell 1
  have o2 := F2.out.cell 2
  have o3 := F2.out.cell 3
  have u0 := BG.out.cell 0
  have u1 := BG.out.cell 1
  have u2 := BG.out.cell 2
  have t0 := F3.out.cell 0
  have t1 := F3.out.cell 1
  have t2 := F3.out.cell 2
  have x0 := F3.out.frozen 0
  have x1 := F3.out.frozen 1
  have x2 := F3.out.frozen 2
  obtain ⟨gb, rfl⟩ := own_some O1.out (by have := HJN.out; omega)
  have HJF := hid (show j < f.1.length by rw [← HN.out]; exact HJN.out)
  obtain ⟨b4, o4, e4, l4, c4⟩ := (own_rd O1.out).1.nodes j HJF.out
  cases e4
  have d2 := (c4 j HJF.out).1
  have d3 := (c4 j HJF.out).2
  rw [Nat.zero_add] at d2 d3
  obtain ⟨cur, hcur⟩ := own_block O1.out
  have hf := hcur.frozen (j * 2)
  have hf2 := hcur.frozen (j * 2 + 1)
  have HNEg := hid (show g ≠ gb from fun e => own_nblk O1.out BG.out (by decide) (by rw [e]; rfl))
  have HG1 := hid (show w.heap.size + 3 ≤ gb from (own_block_rng O1.out rfl).1)
  have hng := HNEg.out
  have hng2 : ¬ gb = g := fun e => HNEg.out e.symm
  have hnr : ¬ w.heap.size + 1 + 1 = gb := by have := HG1.out; omega
  have hnr2 : ¬ gb = w.heap.size + 1 + 1 := by have := HG1.out; omega
  clear c4 l4 hcur cur
  have hgr : ¬ w.heap.size + 1 + 1 = g := by have := HGS.out; omega
  have hgr2 : ¬ g = w.heap.size + 1 + 1 := by have := HGS.out; omega
  have hgs0 : ¬ w.heap.size = g := by have := HGS.out; omega
  have hgs1 : ¬ w.heap.size + 1 = g := by have := HGS.out; omega
  have fg0 := BG.out.frozen 0
  have fg1 := BG.out.frozen 1
  have fg2 := BG.out.frozen 2
  have HSL := hid (Fs.nds_synL f.1 j HJF.out)
  generalize (f.1[j]'HJF.out).1 = told at d2 HSL
  generalize (f.1[j]'HJF.out).2 = told2 at d3
  go_wp2_with fail
  refine (HND.out _ XZ.out).mono ?_
  rintro e w4 ⟨rfl, rfl⟩
  go_upto_region 23 with fail
  have u0r := cell_regrown u0
  have d2r := cell_regrown d2
  refine wp_region_late [11] [] [(0, true), (1, true), (2, true), (3, true), (4, true), (5, true), (6, true), (7, true), (8, true), (9, true), (10, true), (11, false)] (by kernel_rfl) (by kernel_rfl) (fun _ _ _ _ _ h => h) (by kernel_rfl) (by rfl) ?_
  simp only [List.filterMap_cons, List.filterMap_nil, List.getElem?_toArray, List.getElem?_cons_zero, List.getElem?_cons_succ, Option.map_some, List.contains_cons, List.contains_nil, Nat.reduceBEq, Bool.or_false]
  repeat ((first | refine wpL_val (by rfl) ?_ | refine wpL_pure (by rfl) ?_); intro K hK; go_big_quiet_op; go_big_quiet_on)
  refine wpL_late (by rfl) ?_
  intro K hK
  go_simp
  refine hK _ _ ?_
  clear K hK u0r d2r
  refine wpL_nil ?_
  have HSZ := hid (show ((y.setCell ⟨gb, j * 2 + 1, none⟩ (.string told)).drew).heap.size = y.heap.size from size_put y ⟨gb, j * 2 + 1, none⟩ (.string told))
  have Z1 := hid (Ext.draw (Ext.put XZ.out (p := ⟨gb, j * 2 + 1, none⟩) (by have := HG1.out; simp only; omega) (.string told)))
  have Z3 := hid (Blk.drew (F3.out.far (p := ⟨gb, j * 2 + 1, none⟩) hnr (.string told)))
  have ZG := hid (Blk.drew (BG.out.far (p := ⟨gb, j * 2 + 1, none⟩) hng (.string told)))
  have ZO := hid (own_ext (own_set O1.out rfl (j * 2 + 1) (.string told)) (ext_refl _).draw)
  rw [HSL.out] at ZO
  have Z2 := hid (Blk.drew (F2.out.far (p := ⟨gb, j * 2 + 1, none⟩) (by have := HG1.out; simp only; omega) (.string told)))
  generalize (y.setCell ⟨gb, j * 2 + 1, none⟩ (.string told)).drew = z at *
  have FV := hid (FsV.mk' (f := (Fs.synL f.1 j, f.2.1, f.2.2)) (by simp only; rw [Fs.synL_len]; exact HN.out.symm) HM.out.symm HQ.out.symm (own_rd ZO.out).1 (HR2.out.keep Z1.out) (HR3.out.keep Z1.out) (fun h => by cases h) HZ2.out HZ3.out (n := n) (c1 := c1) (c2 := dc) (c3 := sc))
  clear u0 u1 u2 t0 t1 t2 x0 x1 x2 fg0 fg1 fg2 d2 d3 hf hf2 g0 g1 g2 o0 o1 o2 o3
  have o0 := Z2.out.cell 0
  have u0 := ZG.out.cell 0
  have u1 := ZG.out.cell 1
  have u2 := ZG.out.cell 2
  have HSW := hid (sweptG (Fs.synL f.1 j, f.2.1, f.2.2) _ _ FV.out (by have h := HOK.out.few; simpa [Fs.synL_len] using h) (by have h := HOK.out.dir; simpa [Fs.synL_len] using h) (by have h := HOK.out.syn; simpa [Fs.synL_len] using h))
  have HZS := hid (show w.heap.size + 3 ≤ _ from Nat.le_trans HWS.out (Nat.le_of_eq HSZ.out.symm))
  clear HWS
  go_wp2_with fail
  refine Calls.mono HSW.out ?_
  rintro e w8 ⟨v8, rfl, hf8, hx8⟩
  have FO := hid (hf8.low HZS.out)
  have X8 : Hid (Ext w w8) := hid (Z1.out.then hx8)
  have F8 := hid (Z3.out.keep hx8)
  obtain ⟨S1, b1, S2, b2, S3, b3, rfl, _, _, _⟩ := hf8
  obtain ⟨FW, hFW⟩ : ∃ F, F = Fs.swp (Fs.synL f.1 j, f.2.1, f.2.2) := ⟨_, rfl⟩
  rw [← hFW] at FO HRW ⊢
  obtain ⟨n8, hn8⟩ : ∃ n, n = FW.1.length := ⟨_, rfl⟩
  obtain ⟨m8, hm8⟩ : ∃ n, n = FW.2.1.length := ⟨_, rfl⟩
  obtain ⟨q8, hq8⟩ : ∃ n, n = FW.2.2.length := ⟨_, rfl⟩
  rw [← hn8, ← hm8, ← hq8] at FO
  rw [← hn8, ← hm8, ← hq8]
  have t0 := F8.out.cell 0
  have t1 := F8.out.cell 1
  have t2 := F8.out.cell 2
  have x0 := F8.out.frozen 0
  have x1 := F8.out.frozen 1
  have x2 := F8.out.frozen 2
  clear hx8 hFW hn8 hm8 hq8
  go_wp2
  have hne : w.heap.size + 1 + 1 < w.heap.size + 3 := by omega
  have HBF := hid ((((F8.out.set 0 (.slice S1 n8 b1)).set 1 (.slice S2 m8 b2)).set 2 (.slice S3 q8 b3)).cast (cs' := #[.slice S1 n8 b1, .slice S2 m8 b2, .slice S3 q8 b3]) (by simp))
  have XF := hid (Ext.put (Ext.put (Ext.put X8.out (p := ⟨w.heap.size + 1 + 1, 0, none⟩) (by simp only; omega) (.slice S1 n8 b1)) (p := ⟨w.heap.size + 1 + 1, 1, none⟩) (by simp only; omega) (.slice S2 m8 b2)) (p := ⟨w.heap.size + 1 + 1, 2, none⟩) (by simp only; omega) (.slice S3 q8 b3))
  refine bodyPost_ret (results_blk2 rfl _ _ (w.heap.size + 1 + 1) 25 _ _ rfl HBF.out Tryd.underlying25 rfl (by kernel_rfl)) rfl ?_
  refine ⟨_, by rw [HRW.out]; rfl, ?_, XF.out⟩
  rw [HRW.out]
  exact FsO.P (((FO.out.put (p := ⟨w.heap.size + 1 + 1, 0, none⟩) hne _).put (p := ⟨w.heap.size + 1 + 1, 1, none⟩) hne _).put (p := ⟨w.heap.size + 1 + 1, 2, none⟩) hne _) (fun b hb => HP.out b (by omega))
set_option maxHeartbeats 3200000 in
set_option maxRecDepth 100000 in
theorem doneOf_k3 (p : Nat → Prop) (f : Fs.FSy) (nn tt xx : ByteArray) (v : Value) (w : World) (hv : FsP p w v f) (hp : ∀ b, w.heap.size ≤ b → p b) (hb : Fs.FsB f) (h : Fs.Ok f) (hs : nn.size ≤ 140737488355328) (ht : tt.size ≤ 140737488355328) (hx : xx.size ≤ 140737488355328) (hc : Fs.opck (3, nn, tt, xx) = 0) (hs' : ¬ Fs.nof f.2.1 nn < 0) :
    Calls Tryd.prog 16 #[v, .agg #[.int .i64 3, .string nn, .string tt, .string xx]] w fun e w' => ∃ v', e = .returned (.tuple #[v', .int .i64 ((Fs.raw f (3, nn, tt, xx)).2 : Nat)]) ∧ FsP p w' v' (Fs.raw f (3, nn, tt, xx)).1 ∧ Ext w w' := by
  have HCK := hid (fun wx (hx : Ext w wx) => fsCheck_V f v wx (hv.V.keep hx) hb)
  obtain ⟨NA, nc, DA, dc, SA, sc, rfl, ⟨h1, h2, h3, z1, z2, z3⟩, k1, k2, k3⟩ := hv
  obtain ⟨n, hn⟩ : ∃ n, n = f.1.length := ⟨_, rfl⟩
  obtain ⟨m, hm⟩ : ∃ n, n = f.2.1.length := ⟨_, rfl⟩
  obtain ⟨q, hq⟩ : ∃ n, n = f.2.2.length := ⟨_, rfl⟩
  rw [← hn, ← hm, ← hq] at HCK ⊢
  rw [← hn] at k1 z1
  rw [← hm] at k2 z2
  rw [← hq] at k3 z3
  have HN := hid hn; have HM := hid hm; have HQ := hid hq
  have HR1 := hid h1; have HR2 := hid h2; have HR3 := hid h3
  have HK1 := hid k1; have HK2 := hid k2; have HK3 := hid k3
  have HZ1 := hid z1; have HZ2 := hid z2; have HZ3 := hid z3
  have HP := hid hp
  have HFM := hid (fun wx => opCheck_any 3 nn tt xx wx hs ht hx)
  rw [hc] at HFM
  have h0 := Fs.ok_iff.2 h
  rw [h0] at HCK
  have h24 := h.few
  have hmn := Fs.good_len h.dir
  have hqn := Fs.good_len h.syn
  have HOK := hid h
  have HOP := hid hc
  have HL24 := hid (show n ≤ 24 by omega)
  have HM24 := hid (show m ≤ 24 by omega)
  have HQ24 := hid (show q ≤ 24 by omega)
  have HND := hid (fun wx (hx : Ext w wx) => nodeOf_any f.2.1 nn DA m dc wx hm.symm (h2.keep hx) (by omega))
  have hnI : (n : Int) ≤ 24 := by omega
  have hmI : (m : Int) ≤ 24 := by omega
  obtain ⟨j, hj⟩ : ∃ j : Nat, Fs.nof f.2.1 nn = (j : Int) := ⟨(Fs.nof f.2.1 nn).toNat, by omega⟩
  have hjn : j < n := by have := Fs.nof_rng (Fs.dir_iff.2 h.dir) nn; omega
  rw [hj] at HND
  have HJN := hid hjn
  have hjI : (j : Int) < (n : Int) := by omega
  have HRW := hid (show Fs.raw f (3, nn, tt, xx) = (Fs.swp (f.1, Fs.wth (Fs.wout f.2.1 nn) (tt, (j : Int)), f.2.2), 0) by unfold Fs.raw; simp only; rw [if_neg (by decide), if_neg (by decide), if_neg hs', if_neg (by decide), if_pos trivial, hj])
  have hnn := Fs.nof_notin h.dir hs'
  rw [hj] at hnn
  have hkt := (Fs.opck_zero hc).2.2.2.1 rfl
  have HGT := hid (Fs.wth_good (Fs.wout_good h.dir nn) (x := (tt, (j : Int))) hkt (by simp only; omega) (by simp only; omega) hnn)
  have HGD := hid (Fs.wout_good h.dir nn)
  have HWO := hid (fun wx (hx : Ext w wx) => without_any f.2.1 nn DA m dc wx hm.symm (h2.keep hx) (by omega))
  obtain ⟨LW, hLW⟩ : ∃ L, L = Fs.wout f.2.1 nn := ⟨_, rfl⟩
  rw [← hLW] at HGD HWO HRW HGT
  obtain ⟨m5, hm5⟩ : ∃ m5, m5 = LW.length := ⟨_, rfl⟩
  have HM5 := hid hm5
  rw [← hm5] at HWO
  have HML := hid (show m5 ≤ 24 by have := Fs.good_len HGD.out; omega)
  have HSN := hid (show ∀ x ∈ LW, x.1.size ≤ 140737488355328 from fun x hx => Fs.nm_size (HGD.out.1 x hx).1)
  have HTT := hid ht
  clear hb h1 h2 h3 k1 k2 k3 z1 z2 z3 hp hn hm hq h hs ht hx hc h0 h24 hmn hqn hs' hj hjn hLW hm5 hnn hkt
  go_enter Tryd.func16, Tryd.ntmps16
  go_upto_region 1 with fail
  refine wp_gen (fun w' => Ext w w' ∧ Blk w' w.heap.size 25 #[.slice NA n nc, .slice DA m dc, .slice SA q sc] ∧ Blk w' (w.heap.size + 1) 27 #[.int .i64 3, .string nn, .string tt, .string xx] ∧ Blk w' (w.heap.size + 1 + 1) 25 #[.slice none 0 0, .slice none 0 0, .slice none 0 0]) ⟨(((ext_refl _).new _).new _).new _, ((Blk.new _ _ _).alloc _).alloc _, (Blk.newAt (by simp)).alloc _, Blk.newAt (by simp)⟩ ?_
  rintro wz ⟨B0, B1, B2, B3⟩
  have XZ : Hid (Ext w wz) := hid B0
  have F1 := hid B1
  have F2 := hid B2
  have F3 := hid B3
  have p0 := B1.cell 0
  have p1 := B1.cell 1
  have p2 := B1.cell 2
  clear B0 B1 B2 B3
  go_wp2_with fail
  refine Calls.mono (HCK.out _ XZ.out) ?_
  rintro e w1 ⟨rfl, hx⟩
  replace XZ : Hid (Ext w w1) := hid (XZ.out.then hx)
  replace F1 := hid (F1.out.keep hx)
  replace F2 := hid (F2.out.keep hx)
  replace F3 := hid (F3.out.keep hx)
  clear hx p0 p1 p2
  have o0 := F2.out.cell 0
  have o1 := F2.out.cell 1
  have o2 := F2.out.cell 2
  have o3 := F2.out.cell 3
  go_wp2_with fail
  refine Calls.mono (HFM.out _) ?_
  rintro e w2 ⟨rfl, hx⟩
  replace XZ : Hid (Ext w w2) := hid (XZ.out.then hx)
  replace F1 := hid (F1.out.keep hx)
  replace F2 := hid (F2.out.keep hx)
  replace F3 := hid (F3.out.keep hx)
  clear hx o0 o1 o2 o3
  have g0 := F1.out.cell 0
  have g1 := F1.out.cell 1
  have g2 := F1.out.cell 2
  go_upto_region 6 with fail
  refine Code.wp_mono (Q := fun e a w' => e = .normal ∧ ∃ (g gx : Nat) (A1 : Option Addr) (c1 : Nat), a = ⟨#[.agg #[.slice NA n nc, .slice DA m dc, .slice SA q sc], .agg #[.int .i64 3, .string nn, .string tt, .string xx], .pointer (some ⟨w.heap.size, 0, none⟩), .pointer (some ⟨w.heap.size + 1, 0, none⟩), .pointer (some ⟨w.heap.size + 1 + 1, 0, none⟩), .int .i64 0, .int .i64 0, .pointer (some ⟨g, 0, none⟩), undef, .agg #[.slice NA n nc, .slice DA m dc, .slice SA q sc], .int .i64 0, .int .i64 0, .bool true, .agg #[.int .i64 3, .string nn, .string tt, .string xx], .int .i64 0, .int .i64 0, .bool false, undef, undef, .slice (some ⟨gx, 0, none⟩) 0 0, .pointer (some ⟨w.heap.size, 0, none⟩), .slice NA n nc, .slice A1 n c1, .pointer (some ⟨w.heap.size, 1, none⟩), .slice DA m dc, .pointer (some ⟨w.heap.size, 2, none⟩), .slice SA q sc, .agg #[.slice A1 n c1, .slice DA m dc, .slice SA q sc], undef, undef, undef, undef, undef, undef, undef, undef, undef, undef, undef, undef, undef, undef, undef, undef, undef, undef, undef, undef, undef, undef, undef, undef, undef, undef, undef, undef, undef, undef, undef, undef, undef, undef, undef, undef, undef, undef, undef, undef, undef, undef, undef, undef, undef, undef, undef, undef, undef, undef, undef, undef, undef, undef, undef, undef, undef, undef, undef, undef, undef, undef, undef, undef, undef, undef, undef, undef, undef, undef, undef, undef, undef, undef, undef, undef, undef, undef, undef, undef, undef, undef, undef, undef, undef, undef, undef, undef], []⟩ ∧ Hid (Ext w2 w') ∧ Hid (w2.heap.size ≤ g) ∧ Hid (Blk w' g 25 #[.slice A1 n c1, .slice DA m dc, .slice SA q sc]) ∧ Hid (w'.ownsRow w2.heap.size 49 2 (.slice A1 n c1) n (nds f.1))) ?_ ?_
  rotate_left
  · have g0r := cell_regrown g0
    have g1r := cell_regrown g1
    have g2r := cell_regrown g2
    refine wp_region_tree (.one 1 true (.one 2 true (.one 4 true (.one 5 true (.one 6 true (.one 7 true (.two 0 9 (.two 3 9 (.one 8 true (.one 9 false (.one 10 false (.nil)))) (.one 3 false (.one 8 true (.one 10 false (.nil))))) (.one 0 false (.one 3 false (.one 8 true (.one 10 false (.nil)))))))))))) (by kernel_rfl) (by kernel_rfl) (by rintro _ _ _ _ _ ⟨h, _⟩; cases h) (by kernel_rfl) (by rfl) ?_
    simp only [fillT, List.getD_cons_zero, List.getD_cons_succ]
    have Y0 : Ext w2 w2.drew := (ext_refl w2).draw
    generalize w2.drew = y0 at Y0 ⊢
    repeat (refine wpTO_val (by rfl) ?_; intro K hK; go_big_quiet_op; go_big_quiet_on)
    refine wpTO_two ?_ ?_
    · refine wpTO_do (by rfl) ?_
      intro K hK
      go_simp
      have O1 : (y0.alloc (.cells #[] 49)).ownsRow w2.heap.size 49 2 (.slice (some ⟨y0.heap.size, 0, none⟩) 0 0) 0 (nds []) := own_new (C := #[]) rfl rfl (Y0).size (Nat.zero_le _)
      have Y1 := Ext.new Y0 (.cells #[] 49)
      generalize y0.alloc (.cells #[] 49) = y1 at *
      generalize y0.heap.size = gx at *
      refine hK _ _ Y1 ?_
      clear K hK
      refine wpTO_two ?_ ?_
      · refine wpTO_do (by rfl) ?_
        intro K hK
        refine wp_app (.tmp 19) (.tmp 21) rowNo rfl _ 0 (nds []) rfl O1 _ n (nds f.1) rfl (Src.rd Tryd.underlying22 _ n nc _ (by rw [nds_len, HN.out]) (HR1.out.keep (XZ.out.then Y1)) (nds_one _) HZ1.out) (by have := HL24.out; simp only [maxLen] at *; omega) (by have := HL24.out; omega) (Y1).size ?_
        intro v' y2 hown9 hgrow hat hbel
        rw [Nat.zero_add] at hown9
        have Y2 : Ext w2 y2 := Below.trans Y1 hbel
        clear O1
        have O1 : y2.ownsRow w2.heap.size 49 2 v' n (nds f.1) := hown9
        clear hown9
        obtain ⟨A1, c1, rfl, _, _, _, _⟩ := Rd.owned O1
        refine hK _ _ Y2 ?_
        clear K hK hgrow hat hbel
        simp only [Act.put, List.setIfInBounds_toArray, List.set_cons_zero, List.set_cons_succ]
        repeat (refine wpTO_val (by rfl) ?_; intro K hK; go_big_quiet_op; go_big_quiet_on)
        refine wpTO_do (by rfl) ?_
        intro K hK
        go_simp
        replace O1 := own_ext O1 (Ext.new (ext_refl y2) (.cells #[.slice none 0 0, .slice none 0 0, .slice none 0 0] 25))
        have BG := Blk.new y2 25 #[.slice none 0 0, .slice none 0 0, .slice none 0 0]
        have Y3 := Ext.new Y2 (.cells #[.slice none 0 0, .slice none 0 0, .slice none 0 0] 25)
        have hgs := (Y2).size
        obtain ⟨g, hg⟩ : ∃ g, g = (y2 : World).heap.size := ⟨_, rfl⟩
        rw [← hg] at BG hgs ⊢
        generalize (y2 : World).alloc (.cells #[.slice none 0 0, .slice none 0 0, .slice none 0 0] 25) = y3 at *
        refine hK _ _ Y3 ?_
        clear K hK hg
        have q0 := BG.cell 0
        have q1 := BG.cell 1
        have q2 := BG.cell 2
        have f0 := BG.frozen 0
        have f1 := BG.frozen 1
        have f2 := BG.frozen 2
        refine wpTO_do (by rfl) ?_
        intro K hK
        go_simp
        refine hK _ _ (Ext.put (Ext.put (Ext.put Y3 (p := ⟨g, 0, none⟩) hgs (.slice A1 n c1)) (p := ⟨g, 1, none⟩) hgs (.slice DA m dc)) (p := ⟨g, 2, none⟩) hgs (.slice SA q sc)) ?_
        clear K hK
        refine wpTO_nil ?_
        refine ⟨rfl, g, gx, A1, c1, rfl, hid (Ext.put (Ext.put (Ext.put Y3 (p := ⟨g, 0, none⟩) hgs (.slice A1 n c1)) (p := ⟨g, 1, none⟩) hgs (.slice DA m dc)) (p := ⟨g, 2, none⟩) hgs (.slice SA q sc)), hid hgs, hid ((((BG.set 0 (.slice A1 n c1)).set 1 (.slice DA m dc)).set 2 (.slice SA q sc)).cast (by simp)), hid ?_⟩
        exact own_put (own_put (own_put O1 (p := ⟨g, 0, none⟩) (own_nblk O1 BG (by decide)) _) (p := ⟨g, 1, none⟩) (own_nblk O1 BG (by decide)) _) (p := ⟨g, 2, none⟩) (own_nblk O1 BG (by decide)) _
      · refine wpTO_do (by rfl) ?_
        intro K hK
        go_simp
        replace O1 := own_ext O1 (Ext.new (ext_refl y1) (.cells #[.slice none 0 0, .slice none 0 0, .slice none 0 0] 25))
        have BG := Blk.new y1 25 #[.slice none 0 0, .slice none 0 0, .slice none 0 0]
        have Y4 := Ext.new Y1 (.cells #[.slice none 0 0, .slice none 0 0, .slice none 0 0] 25)
        have hgs := (Y1).size
        obtain ⟨g, hg⟩ : ∃ g, g = (y1 : World).heap.size := ⟨_, rfl⟩
        rw [← hg] at BG hgs ⊢
        generalize (y1 : World).alloc (.cells #[.slice none 0 0, .slice none 0 0, .slice none 0 0] 25) = y4 at *
        refine hK _ _ Y4 ?_
        clear K hK hg
        refine wpTO_do (by rfl) ?_
        intro K hK
        refine wp_app (.tmp 19) (.tmp 21) rowNo rfl _ 0 (nds []) rfl O1 _ n (nds f.1) rfl (Src.rd Tryd.underlying22 _ n nc _ (by rw [nds_len, HN.out]) (HR1.out.keep (XZ.out.then Y4)) (nds_one _) HZ1.out) (by have := HL24.out; simp only [maxLen] at *; omega) (by have := HL24.out; omega) (Y4).size ?_
        intro v' y5 hown9 hgrow hat hbel
        rw [Nat.zero_add] at hown9
        have Y5 : Ext w2 y5 := Below.trans Y4 hbel
        replace BG := Blk.grown BG hgrow (own_nblk O1 BG (by decide))
        clear O1
        have O1 : y5.ownsRow w2.heap.size 49 2 v' n (nds f.1) := hown9
        clear hown9
        obtain ⟨A1, c1, rfl, _, _, _, _⟩ := Rd.owned O1
        refine hK _ _ Y5 ?_
        clear K hK hgrow hat hbel
        simp only [Act.put, List.setIfInBounds_toArray, List.set_cons_zero, List.set_cons_succ]
        repeat (refine wpTO_val (by rfl) ?_; intro K hK; go_big_quiet_op; go_big_quiet_on)
        have q0 := BG.cell 0
        have q1 := BG.cell 1
        have q2 := BG.cell 2
        have f0 := BG.frozen 0
        have f1 := BG.frozen 1
        have f2 := BG.frozen 2
        refine wpTO_do (by rfl) ?_
        intro K hK
        go_simp
        refine hK _ _ (Ext.put (Ext.put (Ext.put Y5 (p := ⟨g, 0, none⟩) hgs (.slice A1 n c1)) (p := ⟨g, 1, none⟩) hgs (.slice DA m dc)) (p := ⟨g, 2, none⟩) hgs (.slice SA q sc)) ?_
        clear K hK
        refine wpTO_nil ?_
        refine ⟨rfl, g, gx, A1, c1, rfl, hid (Ext.put (Ext.put (Ext.put Y5 (p := ⟨g, 0, none⟩) hgs (.slice A1 n c1)) (p := ⟨g, 1, none⟩) hgs (.slice DA m dc)) (p := ⟨g, 2, none⟩) hgs (.slice SA q sc)), hid hgs, hid ((((BG.set 0 (.slice A1 n c1)).set 1 (.slice DA m dc)).set 2 (.slice SA q sc)).cast (by simp)), hid ?_⟩
        exact own_put (own_put (own_put O1 (p := ⟨g, 0, none⟩) (own_nblk O1 BG (by decide)) _) (p := ⟨g, 1, none⟩) (own_nblk O1 BG (by decide)) _) (p := ⟨g, 2, none⟩) (own_nblk O1 BG (by decide)) _
    · refine wpTO_do (by rfl) ?_
      intro K hK
      go_simp
      have BG := Blk.new y0 25 #[.slice none 0 0, .slice none 0 0, .slice none 0 0]
      have Y6 := Ext.new Y0 (.cells #[.slice none 0 0, .slice none 0 0, .slice none 0 0] 25)
      have hgs := (Y0).size
      obtain ⟨g, hg⟩ : ∃ g, g = (y0 : World).heap.size := ⟨_, rfl⟩
      rw [← hg] at BG hgs ⊢
      generalize (y0 : World).alloc (.cells #[.slice none 0 0, .slice none 0 0, .slice none 0 0] 25) = y6 at *
      refine hK _ _ Y6 ?_
      clear K hK hg
      refine wpTO_do (by rfl) ?_
      intro K hK
      go_simp
      replace BG := Blk.keep BG (Ext.new (ext_refl y6) (.cells #[] 49))
      have O1 : (y6.alloc (.cells #[] 49)).ownsRow w2.heap.size 49 2 (.slice (some ⟨y6.heap.size, 0, none⟩) 0 0) 0 (nds []) := own_new (C := #[]) rfl rfl (Y6).size (Nat.zero_le _)
      have Y7 := Ext.new Y6 (.cells #[] 49)
      generalize y6.alloc (.cells #[] 49) = y7 at *
      generalize y6.heap.size = gx at *
      refine hK _ _ Y7 ?_
      clear K hK
      refine wpTO_do (by rfl) ?_
      intro K hK
      refine wp_app (.tmp 19) (.tmp 21) rowNo rfl _ 0 (nds []) rfl O1 _ n (nds f.1) rfl (Src.rd Tryd.underlying22 _ n nc _ (by rw [nds_len, HN.out]) (HR1.out.keep (XZ.out.then Y7)) (nds_one _) HZ1.out) (by have := HL24.out; simp only [maxLen] at *; omega) (by have := HL24.out; omega) (Y7).size ?_
      intro v' y8 hown9 hgrow hat hbel
      rw [Nat.zero_add] at hown9
      have Y8 : Ext w2 y8 := Below.trans Y7 hbel
      replace BG := Blk.grown BG hgrow (own_nblk O1 BG (by decide))
      clear O1
      have O1 : y8.ownsRow w2.heap.size 49 2 v' n (nds f.1) := hown9
      clear hown9
      obtain ⟨A1, c1, rfl, _, _, _, _⟩ := Rd.owned O1
      refine hK _ _ Y8 ?_
      clear K hK hgrow hat hbel
      simp only [Act.put, List.setIfInBounds_toArray, List.set_cons_zero, List.set_cons_succ]
      repeat (refine wpTO_val (by rfl) ?_; intro K hK; go_big_quiet_op; go_big_quiet_on)
      have q0 := BG.cell 0
      have q1 := BG.cell 1
      have q2 := BG.cell 2
      have f0 := BG.frozen 0
      have f1 := BG.frozen 1
      have f2 := BG.frozen 2
      refine wpTO_do (by rfl) ?_
      intro K hK
      go_simp
      refine hK _ _ (Ext.put (Ext.put (Ext.put Y8 (p := ⟨g, 0, none⟩) hgs (.slice A1 n c1)) (p := ⟨g, 1, none⟩) hgs (.slice DA m dc)) (p := ⟨g, 2, none⟩) hgs (.slice SA q sc)) ?_
      clear K hK
      refine wpTO_nil ?_
      refine ⟨rfl, g, gx, A1, c1, rfl, hid (Ext.put (Ext.put (Ext.put Y8 (p := ⟨g, 0, none⟩) hgs (.slice A1 n c1)) (p := ⟨g, 1, none⟩) hgs (.slice DA m dc)) (p := ⟨g, 2, none⟩) hgs (.slice SA q sc)), hid hgs, hid ((((BG.set 0 (.slice A1 n c1)).set 1 (.slice DA m dc)).set 2 (.slice SA q sc)).cast (by simp)), hid ?_⟩
      exact own_put (own_put (own_put O1 (p := ⟨g, 0, none⟩) (own_nblk O1 BG (by decide)) _) (p := ⟨g, 1, none⟩) (own_nblk O1 BG (by decide)) _) (p := ⟨g, 2, none⟩) (own_nblk O1 BG (by decide)) _

  rintro e a y ⟨rfl, g, gx, A1, c1, rfl, XY, HGS, BG, O1⟩
  have HWS := hid (show w.heap.size + 3 ≤ w2.heap.size by have := F3.out.lt; omega)
  replace HGS := hid (show w.heap.size + 3 ≤ g from Nat.le_trans HWS.out HGS.out)
  replace O1 := hid (own_low' O1.out HWS.out)
  replace F1 := hid (F1.out.keep XY.out)
  replace F2 := hid (F2.out.keep XY.out)
  replace F3 := hid (F3.out.keep XY.out)
  replace XZ : Hid (Ext w y) := hid (XZ.out.then XY.out)
  replace HWS := hid (show w.heap.size + 3 ≤ y.heap.size from Nat.le_trans HWS.out XY.out.size)
  clear XY g0 g1 g2
  have g0 := F1.out.cell 0
  have g1 := F1.out.cell 1
  have g2 := F1.out.cell 2
  have o0 := F2.out.cell 0
  have o1 := F2.out.cell 1
  have o2 := F2.out.cell 2
  have o3 := F2.out.cell 3
  have u0 := BG.out.cell 0
  have u1 := BG.out.cell 1
  have u2 := BG.out.cell 2
  have t0 := F3.out.cell 0
  have t1 := F3.out.cell 1
  have t2 := F3.out.cell 2
  have x0 := F3.out.frozen 0
  have x1 := F3.out.frozen 1
  have x2 := F3.out.frozen 2
  have hgr : ¬ w.heap.size + 1 + 1 = g := by have := HGS.out; omega
  have hgr2 : ¬ g = w.heap.size + 1 + 1 := by have := HGS.out; omega
  have hgs0 : ¬ w.heap.size = g := by have := HGS.out; omega
  have hgs1 : ¬ w.heap.size + 1 = g := by have := HGS.out; omega
  have fg0 := BG.out.frozen 0
  have fg1 := BG.out.frozen 1
  have fg2 := BG.out.frozen 2
  go_wp2_with fail
  refine (HND.out _ XZ.out).mono ?_
  rintro e w4 ⟨rfl, rfl⟩
  go_upto_region 25 with fail
  have g1r := cell_regrown g1
  have o1r := cell_regrown o1
  have o2r := cell_regrown o2
  refine wp_region_late [11] [] [(0, true), (1, true), (2, true), (3, true), (5, true), (6, true), (7, true), (8, true), (4, false), (9, false), (10, true), (11, false)] (by kernel_rfl) (by kernel_rfl) (fun _ _ _ _ _ h => h) (by kernel_rfl) (by rfl) ?_
  simp only [List.filterMap_cons, List.filterMap_nil, List.getElem?_toArray, List.getElem?_cons_zero, List.getElem?_cons_succ, Option.map_some, List.contains_cons, List.contains_nil, Nat.reduceBEq, Bool.or_false]
  repeat ((first | refine wpL_val (by rfl) ?_ | refine wpL_pure (by rfl) ?_); intro K hK; go_big_quiet_op; go_big_quiet_on)
  refine wpL_do (by rfl) ?_
  intro K hK
  go_simp
  refine (HWO.out _ (XZ.out.then (Ext.draw (ext_refl y)))).mono ?_
  rintro e w5 ⟨v5, rfl, ow, hx⟩
  obtain ⟨A5, c5, rfl, _, _, _, _⟩ := Rd.owned ow
  have Y5 := hid (Ext.then (Ext.draw (ext_refl y)) hx)
  have HO5 := hid ow
  refine hK _ _ Y5.out ?_
  clear K hK hx ow
  refine wpL_do (by rfl) ?_
  intro K hK
  go_simp
  refine (withEntry_any LW tt (j : Int) A5 m5 c5 w5 HM5.out.symm (own_rd HO5.out).1 HML.out HTT.out HSN.out).mono ?_
  rintro e w6 ⟨v6, rfl, ow, hx⟩
  obtain ⟨A6, c6, rfl, _, _, _, _⟩ := Rd.owned ow
  have Y6 := hid (Ext.then Y5.out hx)
  have O2 := hid (own_low' ow (base := w.heap.size + 3) (Nat.le_trans HWS.out Y5.out.size))
  refine hK _ _ Y6.out ?_
  clear K hK hx ow g1r o1r o2r
  obtain ⟨LT, hLT⟩ : ∃ L, L = Fs.wth LW (tt, (j : Int)) := ⟨_, rfl⟩
  rw [← hLT] at O2 HRW HGT ⊢
  obtain ⟨m6, hm6⟩ : ∃ m6, m6 = LT.length := ⟨_, rfl⟩
  have HM6 := hid hm6
  rw [← hm6] at O2 ⊢
  clear hm6 hLT
  clear u0 u1 u2 t0 t1 t2 x0 x1 x2 fg0 fg1 fg2 g0 g1 g2 o0 o1 o2 o3
  have HSOLD := HWS
  replace XZ : Hid (Ext w w6) := hid (XZ.out.then Y6.out)
  replace F1 := hid (F1.out.keep Y6.out)
  replace F2 := hid (F2.out.keep Y6.out)
  replace F3 := hid (F3.out.keep Y6.out)
  replace BG := hid (BG.out.keep Y6.out)
  replace O1 := hid (own_ext O1.out Y6.out)
  replace HWS := hid (Nat.le_trans HWS.out (Ext.then (ext_refl _) Y6.out).size)
  have u0 := BG.out.cell 0
  have u1 := BG.out.cell 1
  have u2 := BG.out.cell 2
  have t0 := F3.out.cell 0
  have t1 := F3.out.cell 1
  have t2 := F3.out.cell 2
  have x0 := F3.out.frozen 0
  have x1 := F3.out.frozen 1
  have x2 := F3.out.frozen 2
  have fg0 := BG.out.frozen 0
  have fg1 := BG.out.frozen 1
  have fg2 := BG.out.frozen 2
  have g0 := F1.out.cell 0
  have g1 := F1.out.cell 1
  have g2 := F1.out.cell 2
  have o0 := F2.out.cell 0
  have o1 := F2.out.cell 1
  have o2 := F2.out.cell 2
  have o3 := F2.out.cell 3
  repeat ((first | refine wpL_val (by rfl) ?_ | refine wpL_pure (by rfl) ?_); intro K hK; go_big_quiet_op; go_big_quiet_on)
  refine wpL_late (by rfl) ?_
  intro K hK
  go_simp
  refine hK _ _ ?_
  clear K hK
  refine wpL_nil ?_
  have hs1 : ¬ w.heap.size + 1 = g := by have := HGS.out; omega
  have Z2 := hid (F2.out.far (p := ⟨g, 1, none⟩) hs1 (.slice A6 m6 c6))
  have Z1 := hid (Ext.put XZ.out (p := ⟨g, 1, none⟩) (by have := HGS.out; simp only; omega) (.slice A6 m6 c6))
  have Z3 := hid (F3.out.far (p := ⟨g, 1, none⟩) hgr (.slice A6 m6 c6))
  have ZG := hid ((BG.out.set 1 (.slice A6 m6 c6)).cast (cs' := #[.slice A1 n c1, .slice A6 m6 c6, .slice SA q sc]) (by simp))
  have FV := hid (FsV.mk' (f := (f.1, LT, f.2.2)) HN.out.symm HM6.out.symm HQ.out.symm (own_rd (own_put O1.out (p := ⟨g, 1, none⟩) (own_nblk O1.out BG.out (by decide)) (.slice A6 m6 c6))).1 (own_rd (own_put O2.out (p := ⟨g, 1, none⟩) (own_nblk O2.out BG.out (by decide)) (.slice A6 m6 c6))).1 (HR3.out.keep Z1.out) (own_rd O1.out).2.1 (own_rd O2.out).2.1 HZ3.out (c1 := c1) (c2 := c6) (c3 := sc))
  have HSZ := hid (size_put w6 ⟨g, 1, none⟩ (.slice A6 m6 c6))
  clear u0 u1 u2 t0 t1 t2 x0 x1 x2 fg0 fg1 fg2 g0 g1 g2 o0 o1 o2 o3
  generalize w6.setCell ⟨g, 1, none⟩ (.slice A6 m6 c6) = z at *
  have o0 := Z2.out.cell 0
  have u0 := ZG.out.cell 0
  have u1 := ZG.out.cell 1
  have u2 := ZG.out.cell 2
  have HSW := hid (sweptG (f.1, LT, f.2.2) _ _ FV.out HOK.out.few HGT.out HOK.out.syn)
  have HZS := hid (show w.heap.size + 3 ≤ _ from Nat.le_trans HWS.out (Nat.le_of_eq HSZ.out.symm))
  clear HWS
  go_wp2_with fail
  refine Calls.mono HSW.out ?_
  rintro e w8 ⟨v8, rfl, hf8, hx8⟩
  have FO := hid (hf8.low HZS.out)
  have X8 : Hid (Ext w w8) := hid (Z1.out.then hx8)
  have F8 := hid (Z3.out.keep hx8)
  obtain ⟨S1, b1, S2, b2, S3, b3, rfl, _, _, _⟩ := hf8
  obtain ⟨FW, hFW⟩ : ∃ F, F = Fs.swp (f.1, LT, f.2.2) := ⟨_, rfl⟩
  rw [← hFW] at FO HRW ⊢
  obtain ⟨n8, hn8⟩ : ∃ n, n = FW.1.length := ⟨_, rfl⟩
  obtain ⟨m8, hm8⟩ : ∃ n, n = FW.2.1.length := ⟨_, rfl⟩
  obtain ⟨q8, hq8⟩ : ∃ n, n = FW.2.2.length := ⟨_, rfl⟩
  rw [← hn8, ← hm8, ← hq8] at FO
  rw [← hn8, ← hm8, ← hq8]
  have t0 := F8.out.cell 0
  have t1 := F8.out.cell 1
  have t2 := F8.out.cell 2
  have x0 := F8.out.frozen 0
  have x1 := F8.out.frozen 1
  have x2 := F8.out.frozen 2
  clear hx8 hFW hn8 hm8 hq8
  go_wp2
  have hne : w.heap.size + 1 + 1 < w.heap.size + 3 := by omega
  have HBF := hid ((((F8.out.set 0 (.slice S1 n8 b1)).set 1 (.slice S2 m8 b2)).set 2 (.slice S3 q8 b3)).cast (cs' := #[.slice S1 n8 b1, .slice S2 m8 b2, .slice S3 q8 b3]) (by simp))
  have XF := hid (Ext.put (Ext.put (Ext.put X8.out (p := ⟨w.heap.size + 1 + 1, 0, none⟩) (by simp only; omega) (.slice S1 n8 b1)) (p := ⟨w.heap.size + 1 + 1, 1, none⟩) (by simp only; omega) (.slice S2 m8 b2)) (p := ⟨w.heap.size + 1 + 1, 2, none⟩) (by simp only; omega) (.slice S3 q8 b3))
  refine bodyPost_ret (results_blk2 rfl _ _ (w.heap.size + 1 + 1) 25 _ _ rfl HBF.out Tryd.underlying25 rfl (by kernel_rfl)) rfl ?_
  refine ⟨_, by rw [HRW.out]; rfl, ?_, XF.out⟩
  rw [HRW.out]
  exact FsO.P (((FO.out.put (p := ⟨w.heap.size + 1 + 1, 0, none⟩) hne _).put (p := ⟨w.heap.size + 1 + 1, 1, none⟩) hne _).put (p := ⟨w.heap.size + 1 + 1, 2, none⟩) hne _) (fun b hb => HP.out b (by omega))
set_option maxHeartbeats 3200000 in
set_option maxRecDepth 100000 in
theorem doneOf_k1n (p : Nat → Prop) (f : Fs.FSy) (nn tt xx : ByteArray) (v : Value) (w : World) (hv : FsP p w v f) (hp : ∀ b, w.heap.size ≤ b → p b) (hb : Fs.FsB f) (h : Fs.Ok f) (hs : nn.size ≤ 140737488355328) (ht : tt.size ≤ 140737488355328) (hx : xx.size ≤ 140737488355328) (hc : Fs.opck (1, nn, tt, xx) = 0) (hs' : Fs.nof f.2.1 nn < 0) (h4 : ¬ f.1.length = 24) :
    Calls Tryd.prog 16 #[v, .agg #[.int .i64 1, .string nn, .string tt, .string xx]] w fun e w' => ∃ v', e = .returned (.tuple #[v', .int .i64 ((Fs.raw f (1, nn, tt, xx)).2 : Nat)]) ∧ FsP p w' v' (Fs.raw f (1, nn, tt, xx)).1 ∧ Ext w w' := by
  have HCK := hid (fun wx (hx : Ext w wx) => fsCheck_V f v wx (hv.V.keep hx) hb)
  obtain ⟨NA, nc, DA, dc, SA, sc, rfl, ⟨h1, h2, h3, z1, z2, z3⟩, k1, k2, k3⟩ := hv
  obtain ⟨n, hn⟩ : ∃ n, n = f.1.length := ⟨_, rfl⟩
  obtain ⟨m, hm⟩ : ∃ n, n = f.2.1.length := ⟨_, rfl⟩
  obtain ⟨q, hq⟩ : ∃ n, n = f.2.2.length := ⟨_, rfl⟩
  rw [← hn, ← hm, ← hq] at HCK ⊢
  rw [← hn] at k1 z1
  rw [← hm] at k2 z2
  rw [← hq] at k3 z3
  have HN := hid hn; have HM := hid hm; have HQ := hid hq
  have HR1 := hid h1; have HR2 := hid h2; have HR3 := hid h3
  have HK1 := hid k1; have HK2 := hid k2; have HK3 := hid k3
  have HZ1 := hid z1; have HZ2 := hid z2; have HZ3 := hid z3
  have HP := hid hp
  have HFM := hid (fun wx => opCheck_any 1 nn tt xx wx hs ht hx)
  rw [hc] at HFM
  have h0 := Fs.ok_iff.2 h
  rw [h0] at HCK
  have h24 := h.few
  have hmn := Fs.good_len h.dir
  have hqn := Fs.good_len h.syn
  have HOK := hid h
  have HOP := hid hc
  have HL24 := hid (show n ≤ 24 by omega)
  have HM24 := hid (show m ≤ 24 by omega)
  have HQ24 := hid (show q ≤ 24 by omega)
  have HND := hid (fun wx (hx : Ext w wx) => nodeOf_any f.2.1 nn DA m dc wx hm.symm (h2.keep hx) (by omega))
  have hnI : (n : Int) ≤ 24 := by omega
  have hmI : (m : Int) ≤ 24 := by omega
  have hj : Fs.nof f.2.1 nn = -1 := by have := Fs.nof_rng (Fs.dir_iff.2 h.dir) nn; omega
  rw [hj] at HND
  have HRW := hid (show Fs.raw f (1, nn, tt, xx) = ((f.1 ++ [(xx, ByteArray.empty)], Fs.wth f.2.1 (nn, (f.1.length : Nat)), f.2.2), 0) by unfold Fs.raw Fs.wrt; simp only; rw [if_pos trivial, if_pos hs', if_neg h4])
  rw [← hn] at HRW
  have e24 : ((n : Int) == 24) = false := by rw [beq_eq_false_iff_ne]; omega
  have e25 : ¬ (n : Int) = 24 := by omega
  have HSN := hid (show ∀ x ∈ f.2.1, x.1.size ≤ 140737488355328 from fun x hx => Fs.nm_size (h.dir.1 x hx).1)
  have HNS := hid hs
  have HLA := hid (setL_last f.1 (ByteArray.empty, ByteArray.empty) xx)
  rw [← hn] at HLA
  have HND1 := hid (Fs.nds_setL (f.1 ++ [(ByteArray.empty, ByteArray.empty)]) n (by rw [List.length_append, ← hn]; simp) xx)
  rw [HLA.out] at HND1
  obtain ⟨L1, hL1⟩ : ∃ L, L = f.1 ++ [(ByteArray.empty, ByteArray.empty)] := ⟨_, rfl⟩
  have HL1 := hid (show L1.length = n + 1 by rw [hL1, List.length_append, ← hn]; rfl)
  have HAT := hid (show ∀ hh : n < L1.length, L1[n] = (ByteArray.empty, ByteArray.empty) by subst hL1; intro hh; simp [hn])
  have HL1E := hid hL1
  rw [← hL1] at HND1
  clear hb h1 h2 h3 k1 k2 k3 z1 z2 z3 hp hn hm hq h hs ht hx hc h0 h24 hmn hqn hs' hj h4 hL1
  go_enter Tryd.func16, Tryd.ntmps16
  go_upto_region 1 with fail
  refine wp_gen (fun w' => Ext w w' ∧ Blk w' w.heap.size 25 #[.slice NA n nc, .slice DA m dc, .slice SA q sc] ∧ Blk w' (w.heap.size + 1) 27 #[.int .i64 1, .string nn, .string tt, .string xx] ∧ Blk w' (w.heap.size + 1 + 1) 25 #[.slice none 0 0, .slice none 0 0, .slice none 0 0]) ⟨(((ext_refl _).new _).new _).new _, ((Blk.new _ _ _).alloc _).alloc _, (Blk.newAt (by simp)).alloc _, Blk.newAt (by simp)⟩ ?_
  rintro wz ⟨B0, B1, B2, B3⟩
  have XZ : Hid (Ext w wz) := hid B0
  have F1 := hid B1
  have F2 := hid B2
  have F3 := hid B3
  have p0 := B1.cell 0
  have p1 := B1.cell 1
  have p2 := B1.cell 2
  clear B0 B1 B2 B3
  go_wp2_with fail
  refine Calls.mono (HCK.out _ XZ.out) ?_
  rintro e w1 ⟨rfl, hx⟩
  replace XZ : Hid (Ext w w1) := hid (XZ.out.then hx)
  replace F1 := hid (F1.out.keep hx)
  replace F2 := hid (F2.out.keep hx)
  replace F3 := hid (F3.out.keep hx)
  clear hx p0 p1 p2
  have o0 := F2.out.cell 0
  have o1 := F2.out.cell 1
  have o2 := F2.out.cell 2
  have o3 := F2.out.cell 3
  go_wp2_with fail
  refine Calls.mono (HFM.out _) ?_
  rintro e w2 ⟨rfl, hx⟩
  replace XZ : Hid (Ext w w2) := hid (XZ.out.then hx)
  replace F1 := hid (F1.out.keep hx)
  replace F2 := hid (F2.out.keep hx)
  replace F3 := hid (F3.out.keep hx)
  clear hx o0 o1 o2 o3
  have g0 := F1.out.cell 0
  have g1 := F1.out.cell 1
  have g2 := F1.out.cell 2
  go_upto_region 6 with fail
  refine Code.wp_mono (Q := fun e a w' => e = .normal ∧ ∃ (g gx : Nat) (A1 : Option Addr) (c1 : Nat), a = ⟨#[.agg #[.slice NA n nc, .slice DA m dc, .slice SA q sc], .agg #[.int .i64 1, .string nn, .string tt, .string xx], .pointer (some ⟨w.heap.size, 0, none⟩), .pointer (some ⟨w.heap.size + 1, 0, none⟩), .pointer (some ⟨w.heap.size + 1 + 1, 0, none⟩), .int .i64 0, .int .i64 0, .pointer (some ⟨g, 0, none⟩), undef, .agg #[.slice NA n nc, .slice DA m dc, .slice SA q sc], .int .i64 0, .int .i64 0, .bool true, .agg #[.int .i64 1, .string nn, .string tt, .string xx], .int .i64 0, .int .i64 0, .bool false, undef, undef, .slice (some ⟨gx, 0, none⟩) 0 0, .pointer (some ⟨w.heap.size, 0, none⟩), .slice NA n nc, .slice A1 n c1, .pointer (some ⟨w.heap.size, 1, none⟩), .slice DA m dc, .pointer (some ⟨w.heap.size, 2, none⟩), .slice SA q sc, .agg #[.slice A1 n c1, .slice DA m dc, .slice SA q sc], undef, undef, undef, undef, undef, undef, undef, undef, undef, undef, undef, undef, undef, undef, undef, undef, undef, undef, undef, undef, undef, undef, undef, undef, undef, undef, undef, undef, undef, undef, undef, undef, undef, undef, undef, undef, undef, undef, undef, undef, undef, undef, undef, undef, undef, undef, undef, undef, undef, undef, undef, undef, undef, undef, undef, undef, undef, undef, undef, undef, undef, undef, undef, undef, undef, undef, undef, undef, undef, undef, undef, undef, undef, undef, undef, undef, undef, undef, undef, undef, undef, undef, undef, undef, undef, undef, undef, undef], []⟩ ∧ Hid (Ext w2 w') ∧ Hid (w2.heap.size ≤ g) ∧ Hid (Blk w' g 25 #[.slice A1 n c1, .slice DA m dc, .slice SA q sc]) ∧ Hid (w'.ownsRow w2.heap.size 49 2 (.slice A1 n c1) n (nds f.1))) ?_ ?_
  rotate_left
  · have g0r := cell_regrown g0
    have g1r := cell_regrown g1
    have g2r := cell_regrown g2
    refine wp_region_tree (.one 1 true (.one 2 true (.one 4 true (.one 5 true (.one 6 true (.one 7 true (.two 0 9 (.two 3 9 (.one 8 true (.one 9 false (.one 10 false (.nil)))) (.one 3 false (.one 8 true (.one 10 false (.nil))))) (.one 0 false (.one 3 false (.one 8 true (.one 10 false (.nil)))))))))))) (by kernel_rfl) (by kernel_rfl) (by rintro _ _ _ _ _ ⟨h, _⟩; cases h) (by kernel_rfl) (by rfl) ?_
    simp only [fillT, List.getD_cons_zero, List.getD_cons_succ]
    have Y0 : Ext w2 w2.drew := (ext_refl w2).draw
    generalize w2.drew = y0 at Y0 ⊢
    repeat (refine wpTO_val (by rfl) ?_; intro K hK; go_big_quiet_op; go_big_quiet_on)
    refine wpTO_two ?_ ?_
    · refine wpTO_do (by rfl) ?_
      intro K hK
      go_simp
      have O1 : (y0.alloc (.cells #[] 49)).ownsRow w2.heap.size 49 2 (.slice (some ⟨y0.heap.size, 0, none⟩) 0 0) 0 (nds []) := own_new (C := #[]) rfl rfl (Y0).size (Nat.zero_le _)
      have Y1 := Ext.new Y0 (.cells #[] 49)
      generalize y0.alloc (.cells #[] 49) = y1 at *
      generalize y0.heap.size = gx at *
      refine hK _ _ Y1 ?_
      clear K hK
      refine wpTO_two ?_ ?_
      · refine wpTO_do (by rfl) ?_
        intro K hK
        refine wp_app (.tmp 19) (.tmp 21) rowNo rfl _ 0 (nds []) rfl O1 _ n (nds f.1) rfl (Src.rd Tryd.underlying22 _ n nc _ (by rw [nds_len, HN.out]) (HR1.out.keep (XZ.out.then Y1)) (nds_one _) HZ1.out) (by have := HL24.out; simp only [maxLen] at *; omega) (by have := HL24.out; omega) (Y1).size ?_
        intro v' y2 hown9 hgrow hat hbel
        rw [Nat.zero_add] at hown9
        have Y2 : Ext w2 y2 := Below.trans Y1 hbel
        clear O1
        have O1 : y2.ownsRow w2.heap.size 49 2 v' n (nds f.1) := hown9
        clear hown9
        obtain ⟨A1, c1, rfl, _, _, _, _⟩ := Rd.owned O1
        refine hK _ _ Y2 ?_
        clear K hK hgrow hat hbel
        simp only [Act.put, List.setIfInBounds_toArray, List.set_cons_zero, List.set_cons_succ]
        repeat (refine wpTO_val (by rfl) ?_; intro K hK; go_big_quiet_op; go_big_quiet_on)
        refine wpTO_do (by rfl) ?_
        intro K hK
        go_simp
        replace O1 := own_ext O1 (Ext.new (ext_refl y2) (.cells #[.slice none 0 0, .slice none 0 0, .slice none 0 0] 25))
        have BG := Blk.new y2 25 #[.slice none 0 0, .slice none 0 0, .slice none 0 0]
        have Y3 := Ext.new Y2 (.cells #[.slice none 0 0, .slice none 0 0, .slice none 0 0] 25)
        have hgs := (Y2).size
        obtain ⟨g, hg⟩ : ∃ g, g = (y2 : World).heap.size := ⟨_, rfl⟩
        rw [← hg] at BG hgs ⊢
        generalize (y2 : World).alloc (.cells #[.slice none 0 0, .slice none 0 0, .slice none 0 0] 25) = y3 at *
        refine hK _ _ Y3 ?_
        clear K hK hg
        have q0 := BG.cell 0
        have q1 := BG.cell 1
        have q2 := BG.cell 2
        have f0 := BG.frozen 0
        have f1 := BG.frozen 1
        have f2 := BG.frozen 2
        refine wpTO_do (by rfl) ?_
        intro K hK
        go_simp
        refine hK _ _ (Ext.put (Ext.put (Ext.put Y3 (p := ⟨g, 0, none⟩) hgs (.slice A1 n c1)) (p := ⟨g, 1, none⟩) hgs (.slice DA m dc)) (p := ⟨g, 2, none⟩) hgs (.slice SA q sc)) ?_
        clear K hK
        refine wpTO_nil ?_
        refine ⟨rfl, g, gx, A1, c1, rfl, hid (Ext.put (Ext.put (Ext.put Y3 (p := ⟨g, 0, none⟩) hgs (.slice A1 n c1)) (p := ⟨g, 1, none⟩) hgs (.slice DA m dc)) (p := ⟨g, 2, none⟩) hgs (.slice SA q sc)), hid hgs, hid ((((BG.set 0 (.slice A1 n c1)).set 1 (.slice DA m dc)).set 2 (.slice SA q sc)).cast (by simp)), hid ?_⟩
        exact own_put (own_put (own_put O1 (p := ⟨g, 0, none⟩) (own_nblk O1 BG (by decide)) _) (p := ⟨g, 1, none⟩) (own_nblk O1 BG (by decide)) _) (p := ⟨g, 2, none⟩) (own_nblk O1 BG (by decide)) _
      · refine wpTO_do (by rfl) ?_
        intro K hK
        go_simp
        replace O1 := own_ext O1 (Ext.new (ext_refl y1) (.cells #[.slice none 0 0, .slice none 0 0, .slice none 0 0] 25))
        have BG := Blk.new y1 25 #[.slice none 0 0, .slice none 0 0, .slice none 0 0]
        have Y4 := Ext.new Y1 (.cells #[.slice none 0 0, .slice none 0 0, .slice none 0 0] 25)
        have hgs := (Y1).size
        obtain ⟨g, hg⟩ : ∃ g, g = (y1 : World).heap.size := ⟨_, rfl⟩
        rw [← hg] at BG hgs ⊢
        generalize (y1 : World).alloc (.cells #[.slice none 0 0, .slice none 0 0, .slice none 0 0] 25) = y4 at *
        refine hK _ _ Y4 ?_
        clear K hK hg
        refine wpTO_do (by rfl) ?_
        intro K hK
        refine wp_app (.tmp 19) (.tmp 21) rowNo rfl _ 0 (nds []) rfl O1 _ n (nds f.1) rfl (Src.rd Tryd.underlying22 _ n nc _ (by rw [nds_len, HN.out]) (HR1.out.keep (XZ.out.then Y4)) (nds_one _) HZ1.out) (by have := HL24.out; simp only [maxLen] at *; omega) (by have := HL24.out; omega) (Y4).size ?_
        intro v' y5 hown9 hgrow hat hbel
        rw [Nat.zero_add] at hown9
        have Y5 : Ext w2 y5 := Below.trans Y4 hbel
        replace BG := Blk.grown BG hgrow (own_nblk O1 BG (by decide))
        clear O1
        have O1 : y5.ownsRow w2.heap.size 49 2 v' n (nds f.1) := hown9
        clear hown9
        obtain ⟨A1, c1, rfl, _, _, _, _⟩ := Rd.owned O1
        refine hK _ _ Y5 ?_
        clear K hK hgrow hat hbel
        simp only [Act.put, List.setIfInBounds_toArray, List.set_cons_zero, List.set_cons_succ]
        repeat (refine wpTO_val (by rfl) ?_; intro K hK; go_big_quiet_op; go_big_quiet_on)
        have q0 := BG.cell 0
        have q1 := BG.cell 1
        have q2 := BG.cell 2
        have f0 := BG.frozen 0
        have f1 := BG.frozen 1
        have f2 := BG.frozen 2
        refine wpTO_do (by rfl) ?_
        intro K hK
        go_simp
        refine hK _ _ (Ext.put (Ext.put (Ext.put Y5 (p := ⟨g, 0, none⟩) hgs (.slice A1 n c1)) (p := ⟨g, 1, none⟩) hgs (.slice DA m dc)) (p := ⟨g, 2, none⟩) hgs (.slice SA q sc)) ?_
        clear K hK
        refine wpTO_nil ?_
        refine ⟨rfl, g, gx, A1, c1, rfl, hid (Ext.put (Ext.put (Ext.put Y5 (p := ⟨g, 0, none⟩) hgs (.slice A1 n c1)) (p := ⟨g, 1, none⟩) hgs (.slice DA m dc)) (p := ⟨g, 2, none⟩) hgs (.slice SA q sc)), hid hgs, hid ((((BG.set 0 (.slice A1 n c1)).set 1 (.slice DA m dc)).set 2 (.slice SA q sc)).cast (by simp)), hid ?_⟩
        exact own_put (own_put (own_put O1 (p := ⟨g, 0, none⟩) (own_nblk O1 BG (by decide)) _) (p := ⟨g, 1, none⟩) (own_nblk O1 BG (by decide)) _) (p := ⟨g, 2, none⟩) (own_nblk O1 BG (by decide)) _
    · refine wpTO_do (by rfl) ?_
      intro K hK
      go_simp
      have BG := Blk.new y0 25 #[.slice none 0 0, .slice none 0 0, .slice none 0 0]
      have Y6 := Ext.new Y0 (.cells #[.slice none 0 0, .slice none 0 0, .slice none 0 0] 25)
      have hgs := (Y0).size
      obtain ⟨g, hg⟩ : ∃ g, g = (y0 : World).heap.size := ⟨_, rfl⟩
      rw [← hg] at BG hgs ⊢
      generalize (y0 : World).alloc (.cells #[.slice none 0 0, .slice none 0 0, .slice none 0 0] 25) = y6 at *
      refine hK _ _ Y6 ?_
      clear K hK hg
      refine wpTO_do (by rfl) ?_
      intro K hK
      go_simp
      replace BG := Blk.keep BG (Ext.new (ext_refl y6) (.cells #[] 49))
      have O1 : (y6.alloc (.cells #[] 49)).ownsRow w2.heap.size 49 2 (.slice (some ⟨y6.heap.size, 0, none⟩) 0 0) 0 (nds []) := own_new (C := #[]) rfl rfl (Y6).size (Nat.zero_le _)
      have Y7 := Ext.new Y6 (.cells #[] 49)
      generalize y6.alloc (.cells #[] 49) = y7 at *
      generalize y6.heap.size = gx at *
      refine hK _ _ Y7 ?_
      clear K hK
      refine wpTO_do (by rfl) ?_
      intro K hK
      refine wp_app (.tmp 19) (.tmp 21) rowNo rfl _ 0 (nds []) rfl O1 _ n (nds f.1) rfl (Src.rd Tryd.underlying22 _ n nc _ (by rw [nds_len, HN.out]) (HR1.out.keep (XZ.out.then Y7)) (nds_one _) HZ1.out) (by have := HL24.out; simp only [maxLen] at *; omega) (by have := HL24.out; omega) (Y7).size ?_
      intro v' y8 hown9 hgrow hat hbel
      rw [Nat.zero_add] at hown9
      have Y8 : Ext w2 y8 := Below.trans Y7 hbel
      replace BG := Blk.grown BG hgrow (own_nblk O1 BG (by decide))
      clear O1
      have O1 : y8.ownsRow w2.heap.size 49 2 v' n (nds f.1) := hown9
      clear hown9
      obtain ⟨A1, c1, rfl, _, _, _, _⟩ := Rd.owned O1
      refine hK _ _ Y8 ?_
      clear K hK hgrow hat hbel
      simp only [Act.put, List.setIfInBounds_toArray, List.set_cons_zero, List.set_cons_succ]
      repeat (refine wpTO_val (by rfl) ?_; intro K hK; go_big_quiet_op; go_big_quiet_on)
      have q0 := BG.cell 0
      have q1 := BG.cell 1
      have q2 := BG.cell 2
      have f0 := BG.frozen 0
      have f1 := BG.frozen 1
      have f2 := BG.frozen 2
      refine wpTO_do (by rfl) ?_
      intro K hK
      go_simp
      refine hK _ _ (Ext.put (Ext.put (Ext.put Y8 (p := ⟨g, 0, none⟩) hgs (.slice A1 n c1)) (p := ⟨g, 1, none⟩) hgs (.slice DA m dc)) (p := ⟨g, 2, none⟩) hgs (.slice SA q sc)) ?_
      clear K hK
      refine wpTO_nil ?_
      refine ⟨rfl, g, gx, A1, c1, rfl, hid (Ext.put (Ext.put (Ext.put Y8 (p := ⟨g, 0, none⟩) hgs (.slice A1 n c1)) (p := ⟨g, 1, none⟩) hgs (.slice DA m dc)) (p := ⟨g, 2, none⟩) hgs (.slice SA q sc)), hid hgs, hid ((((BG.set 0 (.slice A1 n c1)).set 1 (.slice DA m dc)).set 2 (.slice SA q sc)).cast (by simp)), hid ?_⟩
      exact own_put (own_put (own_put O1 (p := ⟨g, 0, none⟩) (own_nblk O1 BG (by decide)) _) (p := ⟨g, 1, none⟩) (own_nblk O1 BG (by decide)) _) (p := ⟨g, 2, none⟩) (own_nblk O1 BG (by decide)) _

  rintro e a y ⟨rfl, g, gx, A1, c1, rfl, XY, HGS, BG, O1⟩
  have HWS := hid (show w.heap.size + 3 ≤ w2.heap.size by have := F3.out.lt; omega)
  replace HGS := hid (show w.heap.size + 3 ≤ g from Nat.le_trans HWS.out HGS.out)
  replace O1 := hid (own_low' O1.out HWS.out)
  replace F1 := hid (F1.out.keep XY.out)
  replace F2 := hid (F2.out.keep XY.out)
  replace F3 := hid (F3.out.keep XY.out)
  replace XZ : Hid (Ext w y) := hid (XZ.out.then XY.out)
  replace HWS := hid (show w.heap.size + 3 ≤ y.heap.size from Nat.le_trans HWS.out XY.out.size)
  clear XY g0 g1 g2
  have g0 := F1.out.cell 0
  have g1 := F1.out.cell 1
  have g2 := F1.out.cell 2
  have o0 := F2.out.cell 0
  have o1 := F2.out.cell 1
  have o2 := F2.out.cell 2
  have o3 := F2.out.cell 3
  have u0 := BG.out.cell 0
  have u1 := BG.out.cell 1
  have u2 := BG.out.cell 2
  have t0 := F3.out.cell 0
  have t1 := F3.out.cell 1
  have t2 := F3.out.cell 2
  have x0 := F3.out.frozen 0
  have x1 := F3.out.frozen 1
  have x2 := F3.out.frozen 2
  have hgr : ¬ w.heap.size + 1 + 1 = g := by have := HGS.out; omega
  have hgr2 : ¬ g = w.heap.size + 1 + 1 := by have := HGS.out; omega
  have hgs0 : ¬ w.heap.size = g := by have := HGS.out; omega
  have hgs1 : ¬ w.heap.size + 1 = g := by have := HGS.out; omega
  have fg0 := BG.out.frozen 0
  have fg1 := BG.out.frozen 1
  have fg2 := BG.out.frozen 2
  have hwy := HWS.out
  go_wp2_with (first | (go_at_call 43; refine (HND.out _ XZ.out).mono ?_; rintro e w4 ⟨rfl, rfl⟩) | (at_builtin; go_loud (refine wpList_app rfl (.tmp 45) (.tmp 47) rowNo rfl _ n (nds f.1) rfl (own_ext O1.out (Ext.new (ext_refl _) _)) _ 1 (nds [(ByteArray.empty, ByteArray.empty)]) rfl (Src.rd Tryd.underlying22 _ 1 1 _ rfl (rd_lit rfl rfl) (nds_one _) (fun h => by cases h)) (by have := HL24.out; simp only [maxLen]; omega) (by have := HL24.out; omega) (Nat.le_trans HWS.out (size_new _ _)) ?_; intro v' w3 hown3 hgrow3 hat3 hbel3; have XA := hid (Ext.new (ext_refl y) (.cells #[.string ⟨#[]⟩, .string ⟨#[]⟩] 49)); have X3 := hid (Below.trans (Below.mono XA.out HWS.out) hbel3); have HW3 := hid (Nat.le_trans HWS.out X3.out.size); have B3 := hid (Blk.grown (BG.out.keep XA.out) hgrow3 (own_nblk O1.out BG.out (by decide))); have P1 := hid hown3; obtain ⟨A9, c9, rfl, hrd9⟩ := Rd.owned hown3; clear hown3 hgrow3 hat3 hbel3 hrd9 u0 u1 u2 t0 t1 t2 x0 x1 x2 fg0 fg1 fg2 g0 g1 g2 o0 o1 o2 o3 hwy; have F13 := hid (F1.out.below X3.out (by omega)); have F23 := hid (F2.out.below X3.out (by omega)); have F33 := hid (F3.out.below X3.out (by omega)); have XZ3 : Hid (Ext w w3) := hid (Below.trans XZ.out (Below.mono X3.out (by omega))); have g1 := F13.out.cell 1; have o1 := F23.out.cell 1; have u0 := B3.out.cell 0; have fg0 := B3.out.frozen 0)) | fail)
  rw [← nds_app, ← HL1E.out] at P1
  have Z1 := hid (Ext.put XZ3.out (p := ⟨g, 0, none⟩) (by have := HGS.out; simp only; omega) (.slice A9 (n + 1) c9))
  have Z31 := hid (F13.out.far (p := ⟨g, 0, none⟩) hgs0 (.slice A9 (n + 1) c9))
  have Z32 := hid (F23.out.far (p := ⟨g, 0, none⟩) hgs1 (.slice A9 (n + 1) c9))
  have Z33 := hid (F33.out.far (p := ⟨g, 0, none⟩) hgr (.slice A9 (n + 1) c9))
  have ZG := hid ((B3.out.set 0 (.slice A9 (n + 1) c9)).cast (cs' := #[.slice A9 (n + 1) c9, .slice DA m dc, .slice SA q sc]) (by simp))
  have ZO := hid (own_put P1.out (p := ⟨g, 0, none⟩) (own_nblk P1.out B3.out (by decide)) (.slice A9 (n + 1) c9))
  have HSZ := hid (size_put w3 ⟨g, 0, none⟩ (.slice A9 (n + 1) c9))
  have HZS := hid (show w.heap.size + 3 ≤ _ from Nat.le_trans HW3.out (Nat.le_of_eq HSZ.out.symm))
  clear B3 F13 F23 F33 P1
  refine (withEntry_any f.2.1 nn (n : Int) DA m dc _ HM.out.symm (HR2.out.keep Z1.out) HM24.out HNS.out HSN.out).mono ?_
  rintro e w6 ⟨v6, rfl, ow, hx⟩
  obtain ⟨A6, c6, rfl, _, _, _, _⟩ := Rd.owned ow
  have O2 := hid (own_low' ow (base := w.heap.size + 3) HZS.out)
  obtain ⟨LT, hLT⟩ : ∃ L, L = Fs.wth f.2.1 (nn, (n : Int)) := ⟨_, rfl⟩
  rw [← hLT] at O2 HRW ⊢
  obtain ⟨m6, hm6⟩ : ∃ m6, m6 = LT.length := ⟨_, rfl⟩
  have HM6 := hid hm6
  rw [← hm6] at O2 ⊢
  have XZ6 := hid (Z1.out.then hx)
  have F6 := hid (Z33.out.keep hx)
  have F62 := hid (Z32.out.keep hx)
  have BG6 := hid (ZG.out.keep hx)
  have O16 := hid (own_ext ZO.out hx)
  clear hx ow hm6 hLT g1 o1 u0 fg0 ZG ZO Z31 Z32 Z33 F1 F2 F3 BG O1
  obtain ⟨gb, rfl⟩ := own_some O16.out (Nat.succ_pos _)
  have HJF := hid (show n < L1.length by rw [HL1.out]; omega)
  obtain ⟨b4, o4, e4, l4, c4⟩ := (own_rd O16.out).1.nodes n HJF.out
  cases e4
  have d2 := (c4 n HJF.out).1
  rw [HAT.out HJF.out, Nat.zero_add] at d2
  obtain ⟨cur, hcur⟩ := own_block O16.out
  have hf := hcur.frozen (n * 2)
  have HNEg := hid (show g ≠ gb from fun e => own_nblk O16.out BG6.out (by decide) (by rw [e]; rfl))
  have HG1 := hid (show w.heap.size + 3 ≤ gb from (own_block_rng O16.out rfl).1)
  have hng := HNEg.out
  have hng2 : ¬ gb = g := fun e => HNEg.out e.symm
  have hnr : ¬ w.heap.size + 1 + 1 = gb := by have := HG1.out; omega
  have hnr2 : ¬ gb = w.heap.size + 1 + 1 := by have := HG1.out; omega
  have hns : ¬ w.heap.size + 1 = gb := by have := HG1.out; omega
  have HNB := hid (own_ne O2.out O16.out (by decide))
  clear c4 l4 hcur cur
  have u0 := BG6.out.cell 0
  have u1 := BG6.out.cell 1
  have u2 := BG6.out.cell 2
  have fg1 := BG6.out.frozen 1
  have o3 := F62.out.cell 3
  have t0 := F6.out.cell 0
  have t1 := F6.out.cell 1
  have t2 := F6.out.cell 2
  have x0 := F6.out.frozen 0
  have x1 := F6.out.frozen 1
  have x2 := F6.out.frozen 2
  go_wp2
  have hne : w.heap.size + 1 + 1 < w.heap.size + 3 := by omega
  have Y1 := hid (Ext.put (Ext.put XZ6.out (p := ⟨g, 1, none⟩) (by have := HGS.out; simp only; omega) (.slice A6 m6 c6)) (p := ⟨gb, n * 2, none⟩) (by have := HG1.out; simp only; omega) (.string xx))
  have Y3 := hid ((F6.out.far (p := ⟨g, 1, none⟩) hgr (.slice A6 m6 c6)).far (p := ⟨gb, n * 2, none⟩) hnr (.string xx))
  have YO := hid (own_set (own_put O16.out (p := ⟨g, 1, none⟩) (own_nblk O16.out BG6.out (by decide)) (.slice A6 m6 c6)) rfl (n * 2) (.string xx))
  rw [HND1.out] at YO
  have YE := hid (own_put (own_put O2.out (p := ⟨g, 1, none⟩) (own_nblk O2.out BG6.out (by decide)) (.slice A6 m6 c6)) (p := ⟨gb, n * 2, none⟩) (by
    rcases HNB.out with h | h
    · rw [h]; intro e; cases e
    · exact h) (.string xx))
  have HBF := hid ((((Y3.out.set 0 (.slice (some ⟨gb, 0, none⟩) (n + 1) c9)).set 1 (.slice A6 m6 c6)).set 2 (.slice SA q sc)).cast (cs' := #[.slice (some ⟨gb, 0, none⟩) (n + 1) c9, .slice A6 m6 c6, .slice SA q sc]) (by simp))
  have XF := hid (Ext.put (Ext.put (Ext.put Y1.out (p := ⟨w.heap.size + 1 + 1, 0, none⟩) (by simp only; omega) (.slice (some ⟨gb, 0, none⟩) (n + 1) c9)) (p := ⟨w.heap.size + 1 + 1, 1, none⟩) (by simp only; omega) (.slice A6 m6 c6)) (p := ⟨w.heap.size + 1 + 1, 2, none⟩) (by simp only; omega) (.slice SA q sc))
  have L0 := hid (own_past (own_past (own_past YO.out (p := ⟨w.heap.size + 1 + 1, 0, none⟩) hne (.slice (some ⟨gb, 0, none⟩) (n + 1) c9)) (p := ⟨w.heap.size + 1 + 1, 1, none⟩) hne (.slice A6 m6 c6)) (p := ⟨w.heap.size + 1 + 1, 2, none⟩) hne (.slice SA q sc))
  have L2 := hid (own_past (own_past (own_past YE.out (p := ⟨w.heap.size + 1 + 1, 0, none⟩) hne (.slice (some ⟨gb, 0, none⟩) (n + 1) c9)) (p := ⟨w.heap.size + 1 + 1, 1, none⟩) hne (.slice A6 m6 c6)) (p := ⟨w.heap.size + 1 + 1, 2, none⟩) hne (.slice SA q sc))
  refine bodyPost_ret (results_blk2 rfl _ _ (w.heap.size + 1 + 1) 25 _ _ rfl HBF.out Tryd.underlying25 rfl (by kernel_rfl)) rfl ?_
  refine ⟨_, by rw [HRW.out]; rfl, ?_, XF.out⟩
  rw [HRW.out]
  exact FsP.mk' (by simp only [List.length_append, List.length_cons, List.length_nil]; rw [← HN.out]) HM6.out.symm HQ.out.symm (own_rd L0.out).1 (own_rd L2.out).1 (HR3.out.keep XF.out) (fun h => by cases h) (own_rd L2.out).2.1 HZ3.out (own_PA L0.out (fun b hb => HP.out b (by omega))) (own_PA L2.out (fun b hb => HP.out b (by omega))) HK3.out
end Go.Proofs.YtolhifnlahllnaaDoor
end
section
namespace Go.Proofs.YtolhifnlahllnaaDoor
open Go.RowKit Hy
theorem doneOf_any (p : Nat → Prop) (f : Fs.FSy) (o : Fs.Opn) (v : Value) (w : World) (hv : FsP p w v f) (hp : ∀ b, w.heap.size ≤ b → p b) (hb : Fs.FsB f) (ho : Fs.OpB o) :
    Calls Tryd.prog 16 #[v, Fs.opV o] w fun e w' => ∃ v', e = .returned (.tuple #[v', .int .i64 ((Fs.don f o).2 : Nat)]) ∧ FsP p w' v' (Fs.don f o).1 ∧ Ext w w' := by
  obtain ⟨kk, nn, tt, xx⟩ := o
  obtain ⟨hs, ht, hx⟩ := ho
  simp only at hs ht hx
  by_cases h : Fs.fsck f = 0
  · by_cases hc : Fs.opck (kk, nn, tt, xx) = 0
    · have hok := Fs.ok_iff.1 h
      rw [Fs.don_raw h hc]
      obtain ⟨k1, k2, _, _, _⟩ := Fs.opck_zero hc
      simp only at k1 k2
      have hk : kk = 1 ∨ kk = 2 ∨ kk = 3 ∨ kk = 4 ∨ kk = 5 := by omega
      by_cases hn : Fs.nof f.2.1 nn < 0
      · rcases hk with rfl | rfl | rfl | rfl | rfl
        · by_cases h4 : f.1.length = 24
          · exact doneOf_k1f p f nn tt xx v w hv hp hb hok hs ht hx hc hn h4
          · exact doneOf_k1n p f nn tt xx v w hv hp hb hok hs ht hx hc hn h4
        · exact doneOf_k2n p f nn tt xx v w hv hp hb hok hs ht hx hc hn
        · exact doneOf_k3n p f nn tt xx v w hv hp hb hok hs ht hx hc hn
        · exact doneOf_k4n p f nn tt xx v w hv hp hb hok hs ht hx hc hn
        · exact doneOf_k5 p f nn tt xx v w hv hp hb hok hs ht hx hc
      · rcases hk with rfl | rfl | rfl | rfl | rfl
        · exact doneOf_k1o p f nn tt xx v w hv hp hb hok hs ht hx hc hn
        · exact doneOf_k2 p f nn tt xx v w hv hp hb hok hs ht hx hc hn
        · exact doneOf_k3 p f nn tt xx v w hv hp hb hok hs ht hx hc hn
        · exact doneOf_k4 p f nn tt xx v w hv hp hb hok hs ht hx hc hn
        · exact doneOf_k5 p f nn tt xx v w hv hp hb hok hs ht hx hc
    · exact doneOf_form p f kk nn tt xx v w hv hp hb h hs ht hx hc
  · exact doneOf_bad p f kk nn tt xx v w hv hp hb h
/-- outside of the caller's own blocks -/
def Out (s k : Nat) (b : Nat) : Prop := b < s ∨ s + k ≤ b
theorem FsV.up2 {w : World} {v : Value} {f : Fs.FSy} (k : Nat) (h : FsV w v f) : FsP (Out w.heap.size k) w v f := by
  obtain ⟨NA, nc, DA, dc, SA, sc, e, h1, h2, h3, h4⟩ := h
  refine ⟨NA, nc, DA, dc, SA, sc, e, ⟨h1, h2, h3, h4⟩, fun hp a ha => ?_, fun hp a ha => ?_, fun hp a ha => ?_⟩
  · obtain ⟨b, o, e, hb, _⟩ := h1 (by rw [nds_len]; omega)
    rw [ha] at e; cases e; exact .inl hb
  · obtain ⟨b, o, e, hb, _⟩ := h2 (by rw [ens_len]; omega)
    rw [ha] at e; cases e; exact .inl hb
  · obtain ⟨b, o, e, hb, _⟩ := h3 (by rw [ens_len]; omega)
    rw [ha] at e; cases e; exact .inl hb
theorem FsP.put2 {p : Nat → Prop} {w : World} {v : Value} {f : Fs.FSy} (h : FsP p w v f) {a : Addr} (ha : ¬ p a.block) (u : Value) : FsP p (w.setCell a u) v f := by
  obtain ⟨NA, nc, DA, dc, SA, sc, e, ⟨h1, h2, h3, h4⟩, k1, k2, k3⟩ := h
  refine ⟨NA, nc, DA, dc, SA, sc, e, ⟨Rd.but h1 (fun hp b hb e => ha (e ▸ k1 (by rw [nds_len] at hp; omega) b hb)) u, Rd.but h2 (fun hp b hb e => ha (e ▸ k2 (by rw [ens_len] at hp; omega) b hb)) u, Rd.but h3 (fun hp b hb e => ha (e ▸ k3 (by rw [ens_len] at hp; omega) b hb)) u, h4⟩, k1, k2, k3⟩
set_option maxHeartbeats 3200000 in
set_option maxRecDepth 100000 in
theorem playedOf_bad (f : Fs.FSy) (l : List Fs.Opn) (A : Option Addr) (k kc : Nat) (v : Value) (w : World) (hv : FsV w v f) (hb : Fs.FsB f) (hl : l.length = k) (hr : Rd w A (Fs.ops l)) (hkl : k ≤ 140737488355328) (hlb : ∀ o ∈ l, Fs.OpB o) (h : Fs.fsck f ≠ 0) :
    Calls Tryd.prog 23 #[v, .slice A k kc] w fun e w' => ∃ v', e = .returned (.tuple #[v', .int .i64 ((Fs.ply f l).2 : Nat)]) ∧ FsV w' v' (Fs.ply f l).1 ∧ Ext w w' := by
  have HUP := hid (hv.up2 2)
  have HCK := hid (fun wx (hx : Ext w wx) => fsCheck_V f v wx (hv.keep hx) hb)
  obtain ⟨NA, nc, DA, dc, SA, sc, rfl, _, _, _, _, _, _⟩ := hv
  obtain ⟨n, hn⟩ : ∃ n, n = f.1.length := ⟨_, rfl⟩
  obtain ⟨m, hm⟩ : ∃ n, n = f.2.1.length := ⟨_, rfl⟩
  obtain ⟨q, hq⟩ : ∃ n, n = f.2.2.length := ⟨_, rfl⟩
  rw [← hn, ← hm, ← hq] at HUP HCK ⊢
  have HRD := hid hr
  have HLL := hid hl
  have HLB := hid hlb
  have HFBB := hid hb
  have HR := hid (Fs.ply_bad (l := l) h)
  obtain ⟨E0, hE⟩ : ∃ E, E = Fs.fsck f := ⟨_, rfl⟩
  rw [← hE] at h HCK HR
  have HE0 := hid h
  have e1' : ((E0 : Int) == 0) = false := beq_eq_false_iff_ne.2 (by omega)
  have hkI : (k : Int) ≤ 140737488355328 := by omega
  clear hn hm hq hb hl hr hkl hlb h hE
  go_enter Tryd.func23, Tryd.ntmps23
  go_upto_region 1 with fail
  refine wp_gen (fun w' => Ext w w' ∧ Blk w' w.heap.size 25 #[.slice NA n nc, .slice DA m dc, .slice SA q sc] ∧ Blk w' (w.heap.size + 1) 25 #[.slice none 0 0, .slice none 0 0, .slice none 0 0]) ⟨((ext_refl _).new _).new _, (Blk.new _ _ _).alloc _, Blk.newAt (by simp)⟩ ?_
  rintro wz ⟨B0, B1, B3⟩
  have XZ : Hid (Ext w wz) := hid B0
  have F1 := hid B1
  have F3 := hid B3
  have p0 := B1.cell 0
  have p1 := B1.cell 1
  have p2 := B1.cell 2
  clear B0 B1 B3
  go_wp2_with fail
  refine Calls.mono (HCK.out _ XZ.out) ?_
  rintro e w1 ⟨rfl, hx⟩
  replace XZ : Hid (Ext w w1) := hid (XZ.out.then hx)
  replace F1 := hid (F1.out.keep hx)
  replace F3 := hid (F3.out.keep hx)
  clear hx p0 p1 p2
  have HFO0 := hid (HUP.out.keep XZ.out)
  go_wp2
  go_loopw [6, 7] (fun e c wr => ∃ (j : Nat) (fk : Fs.FSy) (E : Nat) (a1 b1 a2 b2 a3 b3 : Nat) (D1 D2 D3 : Option Addr), j ≤ k ∧ c = .int .i64 j ∧ e = .int .i64 (E : Nat) ∧ Hid (E = 0 → Fs.ply f l = Fs.run fk (l.drop j) ∧ Fs.FsB fk ∧ FsP (Out w.heap.size 2) wr (.agg #[.slice D1 a1 b1, .slice D2 a2 b2, .slice D3 a3 b3]) fk) ∧ Hid (E ≠ 0 → Fs.ply f l = (Fs.fs0, E)) ∧ Hid (Blk wr w.heap.size 25 #[.slice D1 a1 b1, .slice D2 a2 b2, .slice D3 a3 b3]) ∧ Hid (Blk wr (w.heap.size + 1) 25 #[.slice none 0 0, .slice none 0 0, .slice none 0 0]) ∧ Hid (Ext w wr)) (fun _ c _ => k - (intOf c).toNat)
  case atStart => exact ⟨0, f, E0, n, nc, m, dc, q, sc, NA, DA, SA, Nat.zero_le _, rfl, rfl, hid (fun h => absurd h HE0.out), hid (fun _ => HR.out), F1, F3, XZ⟩
  case round =>
    obtain ⟨j, fk, E, a1, b1, a2, b2, a3, b3, D1, D2, D3, hj, rfl, rfl, HOKR, HBAD, HB0, HB1, HX⟩ := hrel
    have HSW := hid (show w.heap.size + 2 ≤ wr.heap.size by have := HB1.out.lt; omega)
    have g0 := HB0.out.cell 0
    have g1 := HB0.out.cell 1
    have g2 := HB0.out.cell 2
    have v0 := HB1.out.cell 0
    have v1 := HB1.out.cell 1
    have v2 := HB1.out.cell 2
    have gw := HB0.out.lt
    by_cases hE : E = 0
    · subst hE
      obtain ⟨HR, HFB, HFP⟩ := HOKR.out rfl
      clear HOKR HBAD
      replace HR := hid HR; replace HFB := hid HFB; replace HFP := hid HFP
      by_cases hlt : j < k
      · have hka : j < l.length := by rw [HLL.out]; exact hlt
        obtain ⟨bo, oo, ea, l1, ca⟩ := HRD.out.opns j hka
        obtain ⟨d0, d1, d2, d3⟩ := ca j hka
        replace d0 := ext_cell HX.out d0
        replace d1 := ext_cell HX.out d1
        replace d2 := ext_cell HX.out d2
        replace d3 := ext_cell HX.out d3
        have hob := HLB.out _ (List.getElem_mem hka)
        have HD1 := hid (fun h0 => Fs.run_at_ok fk hka h0)
        have HD2 := hid (fun h0 => Fs.run_at_bad fk hka h0)
        have HEA := hid ea
        have hjI : (j : Int) < (k : Int) := by omega
        clear ca ea l1
        generalize l[j] = o at *
        have HDO := hid (fun wx (hx : Ext wr wx) => doneOf_any (Out w.heap.size 2) fk o _ wx (HFP.out.keep hx) (fun b hb => .inr (by have := HSW.out; have := hx.size; omega)) HFB.out hob)
        clear hka hob
        obtain ⟨kk, nn, tt, xx⟩ := o
        simp only at d0 d1 d2 d3
        have ea := HEA.out
        subst ea
        go_upto_region 7 with fail
        have g0r := cell_regrown g0
        have g1r := cell_regrown g1
        have g2r := cell_regrown g2
        have d0r := cell_regrown d0
        have d1r := cell_regrown d1
        have d2r := cell_regrown d2
        have d3r := cell_regrown d3
        refine wp_region_late [9] [8, 10] [(0, true), (1, true), (2, true), (3, true), (4, true), (5, false), (6, true), (7, true), (8, true), (9, false), (10, true)] (by kernel_rfl) (by kernel_rfl) (fun _ _ _ _ _ h => h) (by kernel_rfl) (by rfl) ?_
        simp only [List.filterMap_cons, List.filterMap_nil, List.getElem?_toArray, List.getElem?_cons_zero, List.getElem?_cons_succ, Option.map_some, List.contains_cons, List.contains_nil, Nat.reduceBEq, Bool.or_false, Bool.or_true]
        repeat ((first | refine wpL_val (by rfl) ?_ | refine wpL_pure (by rfl) ?_); intro K hK; go_big_quiet_op; go_big_quiet_on)
        refine wpL_do (by rfl) ?_
        intro K hK
        go_simp
        refine Calls.mono (HDO.out _ (Ext.draw (ext_refl wr))) ?_
        rintro e w5 ⟨v', rfl, hv, hx⟩
        have HXR := hid (Ext.then (Ext.draw (ext_refl wr)) hx)
        have HFP5 := hid hv
        have HDB := hid (Fs.don_b fk (kk, nn, tt, xx))
        refine hK _ _ HXR.out ?_
        clear K hK hx hv d0 d1 d2 d3 d0r d1r d2r d3r g0r g1r g2r g0 g1 g2 v0 v1 v2
        replace HX := hid (HX.out.then HXR.out)
        replace HB0 := hid (HB0.out.keep HXR.out)
        replace HB1 := hid (HB1.out.keep HXR.out)
        obtain ⟨E, hE⟩ : ∃ E, E = (Fs.don fk (kk, nn, tt, xx)).2 := ⟨_, rfl⟩
        obtain ⟨fn, hfn⟩ : ∃ fn, fn = (Fs.don fk (kk, nn, tt, xx)).1 := ⟨_, rfl⟩
        rw [← hE] at HD1 HD2 ⊢
        rw [← hfn] at HD1 HFP5 HDB
        obtain ⟨B1, b1', B2, b2', B3, b3', hcs, _, _, _⟩ := id HFP5.out
        obtain ⟨n2, hn2⟩ : ∃ n, n = fn.1.length := ⟨_, rfl⟩
        obtain ⟨m2, hm2⟩ : ∃ n, n = fn.2.1.length := ⟨_, rfl⟩
        obtain ⟨q2, hq2⟩ : ∃ n, n = fn.2.2.length := ⟨_, rfl⟩
        rw [← hn2, ← hm2, ← hq2] at hcs
        subst hcs
        clear hn2 hm2 hq2 hE hfn
        have y0 := HB0.out.frozen 0
        have y1 := HB0.out.frozen 1
        have y2 := HB0.out.frozen 2
        have gw := HB0.out.lt
        have g0 := HB0.out.cell 0
        have g1 := HB0.out.cell 1
        have g2 := HB0.out.cell 2
        have G1 := hid ((((HB0.out.set 0 (.slice B1 n2 b1')).set 1 (.slice B2 m2 b2')).set 2 (.slice B3 q2 b3')).cast (cs' := #[.slice B1 n2 b1', .slice B2 m2 b2', .slice B3 q2 b3']) (by simp))
        have G3 := hid (((HB1.out.far (p := ⟨w.heap.size, 0, none⟩) (by simp only; omega) (.slice B1 n2 b1')).far (p := ⟨w.heap.size, 1, none⟩) (by simp only; omega) (.slice B2 m2 b2')).far (p := ⟨w.heap.size, 2, none⟩) (by simp only; omega) (.slice B3 q2 b3'))
        have XY := hid (Ext.put (Ext.put (Ext.put HX.out (p := ⟨w.heap.size, 0, none⟩) (by simp only; omega) (.slice B1 n2 b1')) (p := ⟨w.heap.size, 1, none⟩) (by simp only; omega) (.slice B2 m2 b2')) (p := ⟨w.heap.size, 2, none⟩) (by simp only; omega) (.slice B3 q2 b3'))
        have HFP6 := hid (((HFP5.out.put2 (a := ⟨w.heap.size, 0, none⟩) (fun h => h.elim (fun h => by simp only at h; omega) (fun h => by simp only at h; omega)) (.slice B1 n2 b1')).put2 (a := ⟨w.heap.size, 1, none⟩) (fun h => h.elim (fun h => by simp only at h; omega) (fun h => by simp only at h; omega)) (.slice B2 m2 b2')).put2 (a := ⟨w.heap.size, 2, none⟩) (fun h => h.elim (fun h => by simp only at h; omega) (fun h => by simp only at h; omega)) (.slice B3 q2 b3'))
        repeat (refine wpL_pure (by rfl) ?_; intro K hK; go_big_quiet_op; go_big_quiet_on)
        repeat (refine wpL_val (by rfl) ?_; intro K hK; go_big_quiet_op; go_big_quiet_on)
        repeat (refine wpL_pure (by rfl) ?_; intro K hK; go_big_quiet_op; go_big_quiet_on)
        refine wpL_late (by rfl) ?_
        intro K hK
        go_simp
        refine hK _ _ ?_
        clear K hK
        repeat (refine wpL_pure (by rfl) ?_; intro K hK; go_big_quiet_op; go_big_quiet_on)
        refine wpL_nil ?_
        go_wp2
        go_roundw
        case rel => exact ⟨j + 1, fn, E, n2, b1', m2, b2', q2, b3', B1, B2, B3, by omega, by go_num, rfl, hid (fun h => ⟨HR.out.trans (HD1.out h), HDB.out, HFP6.out⟩), hid (fun h => HR.out.trans (HD2.out h)), G1, G3, XY⟩
        case measure => simp [intOf] <;> omega
      · obtain rfl : j = k := by omega
        have HRN := hid (show Fs.ply f l = (fk, 0) by rw [HR.out, List.drop_eq_nil_of_le (by rw [HLL.out]; exact Nat.le_refl _)]; rfl)
        have z0 := HB1.out.frozen 0
        have z1 := HB1.out.frozen 1
        have z2 := HB1.out.frozen 2
        go_wp2
        have HBF := hid ((((HB1.out.set 0 (.slice D1 a1 b1)).set 1 (.slice D2 a2 b2)).set 2 (.slice D3 a3 b3)).cast (cs' := #[.slice D1 a1 b1, .slice D2 a2 b2, .slice D3 a3 b3]) (by simp))
        have XF := hid (Ext.put (Ext.put (Ext.put HX.out (p := ⟨w.heap.size + 1, 0, none⟩) (by simp only; omega) (.slice D1 a1 b1)) (p := ⟨w.heap.size + 1, 1, none⟩) (by simp only; omega) (.slice D2 a2 b2)) (p := ⟨w.heap.size + 1, 2, none⟩) (by simp only; omega) (.slice D3 a3 b3))
        have HFPF := hid (((HFP.out.put2 (a := ⟨w.heap.size + 1, 0, none⟩) (fun h => h.elim (fun h => by simp only at h; omega) (fun h => by simp only at h; omega)) (.slice D1 a1 b1)).put2 (a := ⟨w.heap.size + 1, 1, none⟩) (fun h => h.elim (fun h => by simp only at h; omega) (fun h => by simp only at h; omega)) (.slice D2 a2 b2)).put2 (a := ⟨w.heap.size + 1, 2, none⟩) (fun h => h.elim (fun h => by simp only at h; omega) (fun h => by simp only at h; omega)) (.slice D3 a3 b3))
        refine bodyPost_ret (results_blk2 rfl _ _ (w.heap.size + 1) 25 _ _ rfl HBF.out Tryd.underlying25 rfl (by kernel_rfl)) rfl ?_
        exact ⟨_, by rw [HRN.out]; rfl, by rw [HRN.out]; exact HFPF.out.V, XF.out⟩
    · have HRN := hid (HBAD.out hE)
      have e1 : ((E : Int) == 0) = false := beq_eq_false_iff_ne.2 (by omega)
      have e2 : ((E : Int) != 0) = true := by simp; omega
      clear hE HOKR HBAD
      by_cases hlt : j < k
      all_goals (
        have z0 := HB1.out.cell 0
        have z1 := HB1.out.cell 1
        have z2 := HB1.out.cell 2
        have y0 := HB1.out.frozen 0
        have y1 := HB1.out.frozen 1
        have y2 := HB1.out.frozen 2
        go_wp2
        have HBF := hid ((((HB1.out.set 0 (.slice none 0 0)).set 1 (.slice none 0 0)).set 2 (.slice none 0 0)).cast (cs' := #[.slice none 0 0, .slice none 0 0, .slice none 0 0]) (by simp))
        have XF := hid (Ext.put (Ext.put (Ext.put HX.out (p := ⟨w.heap.size + 1, 0, none⟩) (by simp only; omega) (.slice none 0 0)) (p := ⟨w.heap.size + 1, 1, none⟩) (by simp only; omega) (.slice none 0 0)) (p := ⟨w.heap.size + 1, 2, none⟩) (by simp only; omega) (.slice none 0 0))
        refine bodyPost_ret (results_blk2 rfl _ _ (w.heap.size + 1) 25 _ _ rfl HBF.out Tryd.underlying25 rfl (by kernel_rfl)) rfl ?_
        exact ⟨_, by rw [HRN.out]; rfl, by rw [HRN.out]; exact (fs0_P (fun _ => True) _).V, XF.out⟩)
set_option maxHeartbeats 3200000 in
set_option maxRecDepth 100000 in
theorem playedOf_many (f : Fs.FSy) (l : List Fs.Opn) (A : Option Addr) (k kc : Nat) (v : Value) (w : World) (hv : FsV w v f) (hb : Fs.FsB f) (hl : l.length = k) (hr : Rd w A (Fs.ops l)) (hkl : k ≤ 140737488355328) (hlb : ∀ o ∈ l, Fs.OpB o) (h : Fs.fsck f = 0) (h2 : 64 < l.length) :
    Calls Tryd.prog 23 #[v, .slice A k kc] w fun e w' => ∃ v', e = .returned (.tuple #[v', .int .i64 ((Fs.ply f l).2 : Nat)]) ∧ FsV w' v' (Fs.ply f l).1 ∧ Ext w w' := by
  have HUP := hid (hv.up2 2)
  have HCK := hid (fun wx (hx : Ext w wx) => fsCheck_V f v wx (hv.keep hx) hb)
  obtain ⟨NA, nc, DA, dc, SA, sc, rfl, _, _, _, _, _, _⟩ := hv
  obtain ⟨n, hn⟩ : ∃ n, n = f.1.length := ⟨_, rfl⟩
  obtain ⟨m, hm⟩ : ∃ n, n = f.2.1.length := ⟨_, rfl⟩
  obtain ⟨q, hq⟩ : ∃ n, n = f.2.2.length := ⟨_, rfl⟩
  rw [← hn, ← hm, ← hq] at HUP HCK ⊢
  have HRD := hid hr
  have HLL := hid hl
  have HLB := hid hlb
  have HFBB := hid hb
  have HR := hid (Fs.ply_many h h2)
  rw [h] at HCK
  have hk64 : (64 : Int) < (k : Int) := by omega
  have hkI : (k : Int) ≤ 140737488355328 := by omega
  clear hn hm hq hb hl hr hkl hlb h h2
  go_enter Tryd.func23, Tryd.ntmps23
  go_upto_region 1 with fail
  refine wp_gen (fun w' => Ext w w' ∧ Blk w' w.heap.size 25 #[.slice NA n nc, .slice DA m dc, .slice SA q sc] ∧ Blk w' (w.heap.size + 1) 25 #[.slice none 0 0, .slice none 0 0, .slice none 0 0]) ⟨((ext_refl _).new _).new _, (Blk.new _ _ _).alloc _, Blk.newAt (by simp)⟩ ?_
  rintro wz ⟨B0, B1, B3⟩
  have XZ : Hid (Ext w wz) := hid B0
  have F1 := hid B1
  have F3 := hid B3
  have p0 := B1.cell 0
  have p1 := B1.cell 1
  have p2 := B1.cell 2
  clear B0 B1 B3
  go_wp2_with fail
  refine Calls.mono (HCK.out _ XZ.out) ?_
  rintro e w1 ⟨rfl, hx⟩
  replace XZ : Hid (Ext w w1) := hid (XZ.out.then hx)
  replace F1 := hid (F1.out.keep hx)
  replace F3 := hid (F3.out.keep hx)
  clear hx p0 p1 p2
  have HFO0 := hid (HUP.out.keep XZ.out)
  go_wp2
  go_loopw [6, 7] (fun e c wr => ∃ (j : Nat) (fk : Fs.FSy) (E : Nat) (a1 b1 a2 b2 a3 b3 : Nat) (D1 D2 D3 : Option Addr), j ≤ k ∧ c = .int .i64 j ∧ e = .int .i64 (E : Nat) ∧ Hid (E = 0 → Fs.ply f l = Fs.run fk (l.drop j) ∧ Fs.FsB fk ∧ FsP (Out w.heap.size 2) wr (.agg #[.slice D1 a1 b1, .slice D2 a2 b2, .slice D3 a3 b3]) fk) ∧ Hid (E ≠ 0 → Fs.ply f l = (Fs.fs0, E)) ∧ Hid (Blk wr w.heap.size 25 #[.slice D1 a1 b1, .slice D2 a2 b2, .slice D3 a3 b3]) ∧ Hid (Blk wr (w.heap.size + 1) 25 #[.slice none 0 0, .slice none 0 0, .slice none 0 0]) ∧ Hid (Ext w wr)) (fun _ c _ => k - (intOf c).toNat)
  case atStart => exact ⟨0, f, 2, n, nc, m, dc, q, sc, NA, DA, SA, Nat.zero_le _, rfl, rfl, hid (fun h => absurd h (by decide)), hid (fun _ => HR.out), F1, F3, XZ⟩
  case round =>
    obtain ⟨j, fk, E, a1, b1, a2, b2, a3, b3, D1, D2, D3, hj, rfl, rfl, HOKR, HBAD, HB0, HB1, HX⟩ := hrel
    have HSW := hid (show w.heap.size + 2 ≤ wr.heap.size by have := HB1.out.lt; omega)
    have g0 := HB0.out.cell 0
    have g1 := HB0.out.cell 1
    have g2 := HB0.out.cell 2
    have v0 := HB1.out.cell 0
    have v1 := HB1.out.cell 1
    have v2 := HB1.out.cell 2
    have gw := HB0.out.lt
    by_cases hE : E = 0
    · subst hE
      obtain ⟨HR, HFB, HFP⟩ := HOKR.out rfl
      clear HOKR HBAD
      replace HR := hid HR; replace HFB := hid HFB; replace HFP := hid HFP
      by_cases hlt : j < k
      · have hka : j < l.length := by rw [HLL.out]; exact hlt
        obtain ⟨bo, oo, ea, l1, ca⟩ := HRD.out.opns j hka
        obtain ⟨d0, d1, d2, d3⟩ := ca j hka
        replace d0 := ext_cell HX.out d0
        replace d1 := ext_cell HX.out d1
        replace d2 := ext_cell HX.out d2
        replace d3 := ext_cell HX.out d3
        have hob := HLB.out _ (List.getElem_mem hka)
        have HD1 := hid (fun h0 => Fs.run_at_ok fk hka h0)
        have HD2 := hid (fun h0 => Fs.run_at_bad fk hka h0)
        have HEA := hid ea
        have hjI : (j : Int) < (k : Int) := by omega
        clear ca ea l1
        generalize l[j] = o at *
        have HDO := hid (fun wx (hx : Ext wr wx) => doneOf_any (Out w.heap.size 2) fk o _ wx (HFP.out.keep hx) (fun b hb => .inr (by have := HSW.out; have := hx.size; omega)) HFB.out hob)
        clear hka hob
        obtain ⟨kk, nn, tt, xx⟩ := o
        simp only at d0 d1 d2 d3
        have ea := HEA.out
        subst ea
        go_upto_region 7 with fail
        have g0r := cell_regrown g0
        have g1r := cell_regrown g1
        have g2r := cell_regrown g2
        have d0r := cell_regrown d0
        have d1r := cell_regrown d1
        have d2r := cell_regrown d2
        have d3r := cell_regrown d3
        refine wp_region_late [9] [8, 10] [(0, true), (1, true), (2, true), (3, true), (4, true), (5, false), (6, true), (7, true), (8, true), (9, false), (10, true)] (by kernel_rfl) (by kernel_rfl) (fun _ _ _ _ _ h => h) (by kernel_rfl) (by rfl) ?_
        simp only [List.filterMap_cons, List.filterMap_nil, List.getElem?_toArray, List.getElem?_cons_zero, List.getElem?_cons_succ, Option.map_some, List.contains_cons, List.contains_nil, Nat.reduceBEq, Bool.or_false, Bool.or_true]
        repeat ((first | refine wpL_val (by rfl) ?_ | refine wpL_pure (by rfl) ?_); intro K hK; go_big_quiet_op; go_big_quiet_on)
        refine wpL_do (by rfl) ?_
        intro K hK
        go_simp
        refine Calls.mono (HDO.out _ (Ext.draw (ext_refl wr))) ?_
        rintro e w5 ⟨v', rfl, hv, hx⟩
        have HXR := hid (Ext.then (Ext.draw (ext_refl wr)) hx)
        have HFP5 := hid hv
        have HDB := hid (Fs.don_b fk (kk, nn, tt, xx))
        refine hK _ _ HXR.out ?_
        clear K hK hx hv d0 d1 d2 d3 d0r d1r d2r d3r g0r g1r g2r g0 g1 g2 v0 v1 v2
        replace HX := hid (HX.out.then HXR.out)
        replace HB0 := hid (HB0.out.keep HXR.out)
        replace HB1 := hid (HB1.out.keep HXR.out)
        obtain ⟨E, hE⟩ : ∃ E, E = (Fs.don fk (kk, nn, tt, xx)).2 := ⟨_, rfl⟩
        obtain ⟨fn, hfn⟩ : ∃ fn, fn = (Fs.don fk (kk, nn, tt, xx)).1 := ⟨_, rfl⟩
        rw [← hE] at HD1 HD2 ⊢
        rw [← hfn] at HD1 HFP5 HDB
        obtain ⟨B1, b1', B2, b2', B3, b3', hcs, _, _, _⟩ := id HFP5.out
        obtain ⟨n2, hn2⟩ : ∃ n, n = fn.1.length := ⟨_, rfl⟩
        obtain ⟨m2, hm2⟩ : ∃ n, n = fn.2.1.length := ⟨_, rfl⟩
        obtain ⟨q2, hq2⟩ : ∃ n, n = fn.2.2.length := ⟨_, rfl⟩
        rw [← hn2, ← hm2, ← hq2] at hcs
        subst hcs
        clear hn2 hm2 hq2 hE hfn
        have y0 := HB0.out.frozen 0
        have y1 := HB0.out.frozen 1
        have y2 := HB0.out.frozen 2
        have gw := HB0.out.lt
        have g0 := HB0.out.cell 0
        have g1 := HB0.out.cell 1
        have g2 := HB0.out.cell 2
        have G1 := hid ((((HB0.out.set 0 (.slice B1 n2 b1')).set 1 (.slice B2 m2 b2')).set 2 (.slice B3 q2 b3')).cast (cs' := #[.slice B1 n2 b1', .slice B2 m2 b2', .slice B3 q2 b3']) (by simp))
        have G3 := hid (((HB1.out.far (p := ⟨w.heap.size, 0, none⟩) (by simp only; omega) (.slice B1 n2 b1')).far (p := ⟨w.heap.size, 1, none⟩) (by simp only; omega) (.slice B2 m2 b2')).far (p := ⟨w.heap.size, 2, none⟩) (by simp only; omega) (.slice B3 q2 b3'))
        have XY := hid (Ext.put (Ext.put (Ext.put HX.out (p := ⟨w.heap.size, 0, none⟩) (by simp only; omega) (.slice B1 n2 b1')) (p := ⟨w.heap.size, 1, none⟩) (by simp only; omega) (.slice B2 m2 b2')) (p := ⟨w.heap.size, 2, none⟩) (by simp only; omega) (.slice B3 q2 b3'))
        have HFP6 := hid (((HFP5.out.put2 (a := ⟨w.heap.size, 0, none⟩) (fun h => h.elim (fun h => by simp only at h; omega) (fun h => by simp only at h; omega)) (.slice B1 n2 b1')).put2 (a := ⟨w.heap.size, 1, none⟩) (fun h => h.elim (fun h => by simp only at h; omega) (fun h => by simp only at h; omega)) (.slice B2 m2 b2')).put2 (a := ⟨w.heap.size, 2, none⟩) (fun h => h.elim (fun h => by simp only at h; omega) (fun h => by simp only at h; omega)) (.slice B3 q2 b3'))
        repeat (refine wpL_pure (by rfl) ?_; intro K hK; go_big_quiet_op; go_big_quiet_on)
        repeat (refine wpL_val (by rfl) ?_; intro K hK; go_big_quiet_op; go_big_quiet_on)
        repeat (refine wpL_pure (by rfl) ?_; intro K hK; go_big_quiet_op; go_big_quiet_on)
        refine wpL_late (by rfl) ?_
        intro K hK
        go_simp
        refine hK _ _ ?_
        clear K hK
        repeat (refine wpL_pure (by rfl) ?_; intro K hK; go_big_quiet_op; go_big_quiet_on)
        refine wpL_nil ?_
        go_wp2
        go_roundw
        case rel => exact ⟨j + 1, fn, E, n2, b1', m2, b2', q2, b3', B1, B2, B3, by omega, by go_num, rfl, hid (fun h => ⟨HR.out.trans (HD1.out h), HDB.out, HFP6.out⟩), hid (fun h => HR.out.trans (HD2.out h)), G1, G3, XY⟩
        case measure => simp [intOf] <;> omega
      · obtain rfl : j = k := by omega
        have HRN := hid (show Fs.ply f l = (fk, 0) by rw [HR.out, List.drop_eq_nil_of_le (by rw [HLL.out]; exact Nat.le_refl _)]; rfl)
        have z0 := HB1.out.frozen 0
        have z1 := HB1.out.frozen 1
        have z2 := HB1.out.frozen 2
        go_wp2
        have HBF := hid ((((HB1.out.set 0 (.slice D1 a1 b1)).set 1 (.slice D2 a2 b2)).set 2 (.slice D3 a3 b3)).cast (cs' := #[.slice D1 a1 b1, .slice D2 a2 b2, .slice D3 a3 b3]) (by simp))
        have XF := hid (Ext.put (Ext.put (Ext.put HX.out (p := ⟨w.heap.size + 1, 0, none⟩) (by simp only; omega) (.slice D1 a1 b1)) (p := ⟨w.heap.size + 1, 1, none⟩) (by simp only; omega) (.slice D2 a2 b2)) (p := ⟨w.heap.size + 1, 2, none⟩) (by simp only; omega) (.slice D3 a3 b3))
        have HFPF := hid (((HFP.out.put2 (a := ⟨w.heap.size + 1, 0, none⟩) (fun h => h.elim (fun h => by simp only at h; omega) (fun h => by simp only at h; omega)) (.slice D1 a1 b1)).put2 (a := ⟨w.heap.size + 1, 1, none⟩) (fun h => h.elim (fun h => by simp only at h; omega) (fun h => by simp only at h; omega)) (.slice D2 a2 b2)).put2 (a := ⟨w.heap.size + 1, 2, none⟩) (fun h => h.elim (fun h => by simp only at h; omega) (fun h => by simp only at h; omega)) (.slice D3 a3 b3))
        refine bodyPost_ret (results_blk2 rfl _ _ (w.heap.size + 1) 25 _ _ rfl HBF.out Tryd.underlying25 rfl (by kernel_rfl)) rfl ?_
        exact ⟨_, by rw [HRN.out]; rfl, by rw [HRN.out]; exact HFPF.out.V, XF.out⟩
    · have HRN := hid (HBAD.out hE)
      have e1 : ((E : Int) == 0) = false := beq_eq_false_iff_ne.2 (by omega)
      have e2 : ((E : Int) != 0) = true := by simp; omega
      clear hE HOKR HBAD
      by_cases hlt : j < k
      all_goals (
        have z0 := HB1.out.cell 0
        have z1 := HB1.out.cell 1
        have z2 := HB1.out.cell 2
        have y0 := HB1.out.frozen 0
        have y1 := HB1.out.frozen 1
        have y2 := HB1.out.frozen 2
        go_wp2
        have HBF := hid ((((HB1.out.set 0 (.slice none 0 0)).set 1 (.slice none 0 0)).set 2 (.slice none 0 0)).cast (cs' := #[.slice none 0 0, .slice none 0 0, .slice none 0 0]) (by simp))
        have XF := hid (Ext.put (Ext.put (Ext.put HX.out (p := ⟨w.heap.size + 1, 0, none⟩) (by simp only; omega) (.slice none 0 0)) (p := ⟨w.heap.size + 1, 1, none⟩) (by simp only; omega) (.slice none 0 0)) (p := ⟨w.heap.size + 1, 2, none⟩) (by simp only; omega) (.slice none 0 0))
        refine bodyPost_ret (results_blk2 rfl _ _ (w.heap.size + 1) 25 _ _ rfl HBF.out Tryd.underlying25 rfl (by kernel_rfl)) rfl ?_
        exact ⟨_, by rw [HRN.out]; rfl, by rw [HRN.out]; exact (fs0_P (fun _ => True) _).V, XF.out⟩)
set_option maxHeartbeats 3200000 in
set_option maxRecDepth 100000 in
theorem playedOf_good (f : Fs.FSy) (l : List Fs.Opn) (A : Option Addr) (k kc : Nat) (v : Value) (w : World) (hv : FsV w v f) (hb : Fs.FsB f) (hl : l.length = k) (hr : Rd w A (Fs.ops l)) (hkl : k ≤ 140737488355328) (hlb : ∀ o ∈ l, Fs.OpB o) (h : Fs.fsck f = 0) (h2 : ¬ 64 < l.length) :
    Calls Tryd.prog 23 #[v, .slice A k kc] w fun e w' => ∃ v', e = .returned (.tuple #[v', .int .i64 ((Fs.ply f l).2 : Nat)]) ∧ FsV w' v' (Fs.ply f l).1 ∧ Ext w w' := by
  have HUP := hid (hv.up2 2)
  have HCK := hid (fun wx (hx : Ext w wx) => fsCheck_V f v wx (hv.keep hx) hb)
  obtain ⟨NA, nc, DA, dc, SA, sc, rfl, _, _, _, _, _, _⟩ := hv
  obtain ⟨n, hn⟩ : ∃ n, n = f.1.length := ⟨_, rfl⟩
  obtain ⟨m, hm⟩ : ∃ n, n = f.2.1.length := ⟨_, rfl⟩
  obtain ⟨q, hq⟩ : ∃ n, n = f.2.2.length := ⟨_, rfl⟩
  rw [← hn, ← hm, ← hq] at HUP HCK ⊢
  have HRD := hid hr
  have HLL := hid hl
  have HLB := hid hlb
  have HFBB := hid hb
  have HR := hid (Fs.ply_run h h2)
  rw [h] at HCK
  have hk64 : (k : Int) ≤ 64 := by omega
  have hkI : (k : Int) ≤ 140737488355328 := by omega
  clear hn hm hq hb hl hr hkl hlb h h2
  go_enter Tryd.func23, Tryd.ntmps23
  go_upto_region 1 with fail
  refine wp_gen (fun w' => Ext w w' ∧ Blk w' w.heap.size 25 #[.slice NA n nc, .slice DA m dc, .slice SA q sc] ∧ Blk w' (w.heap.size + 1) 25 #[.slice none 0 0, .slice none 0 0, .slice none 0 0]) ⟨((ext_refl _).new _).new _, (Blk.new _ _ _).alloc _, Blk.newAt (by simp)⟩ ?_
  rintro wz ⟨B0, B1, B3⟩
  have XZ : Hid (Ext w wz) := hid B0
  have F1 := hid B1
  have F3 := hid B3
  have p0 := B1.cell 0
  have p1 := B1.cell 1
  have p2 := B1.cell 2
  clear B0 B1 B3
  go_wp2_with fail
  refine Calls.mono (HCK.out _ XZ.out) ?_
  rintro e w1 ⟨rfl, hx⟩
  replace XZ : Hid (Ext w w1) := hid (XZ.out.then hx)
  replace F1 := hid (F1.out.keep hx)
  replace F3 := hid (F3.out.keep hx)
  clear hx p0 p1 p2
  have HFO0 := hid (HUP.out.keep XZ.out)
  go_wp2
  go_loopw [6, 7] (fun e c wr => ∃ (j : Nat) (fk : Fs.FSy) (E : Nat) (a1 b1 a2 b2 a3 b3 : Nat) (D1 D2 D3 : Option Addr), j ≤ k ∧ c = .int .i64 j ∧ e = .int .i64 (E : Nat) ∧ Hid (E = 0 → Fs.ply f l = Fs.run fk (l.drop j) ∧ Fs.FsB fk ∧ FsP (Out w.heap.size 2) wr (.agg #[.slice D1 a1 b1, .slice D2 a2 b2, .slice D3 a3 b3]) fk) ∧ Hid (E ≠ 0 → Fs.ply f l = (Fs.fs0, E)) ∧ Hid (Blk wr w.heap.size 25 #[.slice D1 a1 b1, .slice D2 a2 b2, .slice D3 a3 b3]) ∧ Hid (Blk wr (w.heap.size + 1) 25 #[.slice none 0 0, .slice none 0 0, .slice none 0 0]) ∧ Hid (Ext w wr)) (fun _ c _ => k - (intOf c).toNat)
  case atStart => exact ⟨0, f, 0, n, nc, m, dc, q, sc, NA, DA, SA, Nat.zero_le _, rfl, rfl, hid (fun _ => ⟨HR.out, HFBB.out, HFO0.out⟩), hid (fun h => absurd rfl h), F1, F3, XZ⟩
  case round =>
    obtain ⟨j, fk, E, a1, b1, a2, b2, a3, b3, D1, D2, D3, hj, rfl, rfl, HOKR, HBAD, HB0, HB1, HX⟩ := hrel
    have HSW := hid (show w.heap.size + 2 ≤ wr.heap.size by have := HB1.out.lt; omega)
    have g0 := HB0.out.cell 0
    have g1 := HB0.out.cell 1
    have g2 := HB0.out.cell 2
    have v0 := HB1.out.cell 0
    have v1 := HB1.out.cell 1
    have v2 := HB1.out.cell 2
    have gw := HB0.out.lt
    by_cases hE : E = 0
    · subst hE
      obtain ⟨HR, HFB, HFP⟩ := HOKR.out rfl
      clear HOKR HBAD
      replace HR := hid HR; replace HFB := hid HFB; replace HFP := hid HFP
      by_cases hlt : j < k
      · have hka : j < l.length := by rw [HLL.out]; exact hlt
        obtain ⟨bo, oo, ea, l1, ca⟩ := HRD.out.opns j hka
        obtain ⟨d0, d1, d2, d3⟩ := ca j hka
        replace d0 := ext_cell HX.out d0
        replace d1 := ext_cell HX.out d1
        replace d2 := ext_cell HX.out d2
        replace d3 := ext_cell HX.out d3
        have hob := HLB.out _ (List.getElem_mem hka)
        have HD1 := hid (fun h0 => Fs.run_at_ok fk hka h0)
        have HD2 := hid (fun h0 => Fs.run_at_bad fk hka h0)
        have HEA := hid ea
        have hjI : (j : Int) < (k : Int) := by omega
        clear ca ea l1
        generalize l[j] = o at *
        have HDO := hid (fun wx (hx : Ext wr wx) => doneOf_any (Out w.heap.size 2) fk o _ wx (HFP.out.keep hx) (fun b hb => .inr (by have := HSW.out; have := hx.size; omega)) HFB.out hob)
        clear hka hob
        obtain ⟨kk, nn, tt, xx⟩ := o
        simp only at d0 d1 d2 d3
        have ea := HEA.out
        subst ea
        go_upto_region 7 with fail
        have g0r := cell_regrown g0
        have g1r := cell_regrown g1
        have g2r := cell_regrown g2
        have d0r := cell_regrown d0
        have d1r := cell_regrown d1
        have d2r := cell_regrown d2
        have d3r := cell_regrown d3
        refine wp_region_late [9] [8, 10] [(0, true), (1, true), (2, true), (3, true), (4, true), (5, false), (6, true), (7, true), (8, true), (9, false), (10, true)] (by kernel_rfl) (by kernel_rfl) (fun _ _ _ _ _ h => h) (by kernel_rfl) (by rfl) ?_
        simp only [List.filterMap_cons, List.filterMap_nil, List.getElem?_toArray, List.getElem?_cons_zero, List.getElem?_cons_succ, Option.map_some, List.contains_cons, List.contains_nil, Nat.reduceBEq, Bool.or_false, Bool.or_true]
        repeat ((first | refine wpL_val (by rfl) ?_ | refine wpL_pure (by rfl) ?_); intro K hK; go_big_quiet_op; go_big_quiet_on)
        refine wpL_do (by rfl) ?_
        intro K hK
        go_simp
        refine Calls.mono (HDO.out _ (Ext.draw (ext_refl wr))) ?_
        rintro e w5 ⟨v', rfl, hv, hx⟩
        have HXR := hid (Ext.then (Ext.draw (ext_refl wr)) hx)
        have HFP5 := hid hv
        have HDB := hid (Fs.don_b fk (kk, nn, tt, xx))
        refine hK _ _ HXR.out ?_
        clear K hK hx hv d0 d1 d2 d3 d0r d1r d2r d3r g0r g1r g2r g0 g1 g2 v0 v1 v2
        replace HX := hid (HX.out.then HXR.out)
        replace HB0 := hid (HB0.out.keep HXR.out)
        replace HB1 := hid (HB1.out.keep HXR.out)
        obtain ⟨E, hE⟩ : ∃ E, E = (Fs.don fk (kk, nn, tt, xx)).2 := ⟨_, rfl⟩
        obtain ⟨fn, hfn⟩ : ∃ fn, fn = (Fs.don fk (kk, nn, tt, xx)).1 := ⟨_, rfl⟩
        rw [← hE] at HD1 HD2 ⊢
        rw [← hfn] at HD1 HFP5 HDB
        obtain ⟨B1, b1', B2, b2', B3, b3', hcs, _, _, _⟩ := id HFP5.out
        obtain ⟨n2, hn2⟩ : ∃ n, n = fn.1.length := ⟨_, rfl⟩
        obtain ⟨m2, hm2⟩ : ∃ n, n = fn.2.1.length := ⟨_, rfl⟩
        obtain ⟨q2, hq2⟩ : ∃ n, n = fn.2.2.length := ⟨_, rfl⟩
        rw [← hn2, ← hm2, ← hq2] at hcs
        subst hcs
        clear hn2 hm2 hq2 hE hfn
        have y0 := HB0.out.frozen 0
        have y1 := HB0.out.frozen 1
        have y2 := HB0.out.frozen 2
        have gw := HB0.out.lt
        have g0 := HB0.out.cell 0
        have g1 := HB0.out.cell 1
        have g2 := HB0.out.cell 2
        have G1 := hid ((((HB0.out.set 0 (.slice B1 n2 b1')).set 1 (.slice B2 m2 b2')).set 2 (.slice B3 q2 b3')).cast (cs' := #[.slice B1 n2 b1', .slice B2 m2 b2', .slice B3 q2 b3']) (by simp))
        have G3 := hid (((HB1.out.far (p := ⟨w.heap.size, 0, none⟩) (by simp only; omega) (.slice B1 n2 b1')).far (p := ⟨w.heap.size, 1, none⟩) (by simp only; omega) (.slice B2 m2 b2')).far (p := ⟨w.heap.size, 2, none⟩) (by simp only; omega) (.slice B3 q2 b3'))
        have XY := hid (Ext.put (Ext.put (Ext.put HX.out (p := ⟨w.heap.size, 0, none⟩) (by simp only; omega) (.slice B1 n2 b1')) (p := ⟨w.heap.size, 1, none⟩) (by simp only; omega) (.slice B2 m2 b2')) (p := ⟨w.heap.size, 2, none⟩) (by simp only; omega) (.slice B3 q2 b3'))
        have HFP6 := hid (((HFP5.out.put2 (a := ⟨w.heap.size, 0, none⟩) (fun h => h.elim (fun h => by simp only at h; omega) (fun h => by simp only at h; omega)) (.slice B1 n2 b1')).put2 (a := ⟨w.heap.size, 1, none⟩) (fun h => h.elim (fun h => by simp only at h; omega) (fun h => by simp only at h; omega)) (.slice B2 m2 b2')).put2 (a := ⟨w.heap.size, 2, none⟩) (fun h => h.elim (fun h => by simp only at h; omega) (fun h => by simp only at h; omega)) (.slice B3 q2 b3'))
        repeat (refine wpL_pure (by rfl) ?_; intro K hK; go_big_quiet_op; go_big_quiet_on)
        repeat (refine wpL_val (by rfl) ?_; intro K hK; go_big_quiet_op; go_big_quiet_on)
        repeat (refine wpL_pure (by rfl) ?_; intro K hK; go_big_quiet_op; go_big_quiet_on)
        refine wpL_late (by rfl) ?_
        intro K hK
        go_simp
        refine hK _ _ ?_
        clear K hK
        repeat (refine wpL_pure (by rfl) ?_; intro K hK; go_big_quiet_op; go_big_quiet_on)
        refine wpL_nil ?_
        go_wp2
        go_roundw
        case rel => exact ⟨j + 1, fn, E, n2, b1', m2, b2', q2, b3', B1, B2, B3, by omega, by go_num, rfl, hid (fun h => ⟨HR.out.trans (HD1.out h), HDB.out, HFP6.out⟩), hid (fun h => HR.out.trans (HD2.out h)), G1, G3, XY⟩
        case measure => simp [intOf] <;> omega
      · obtain rfl : j = k := by omega
        have HRN := hid (show Fs.ply f l = (fk, 0) by rw [HR.out, List.drop_eq_nil_of_le (by rw [HLL.out]; exact Nat.le_refl _)]; rfl)
        have z0 := HB1.out.frozen 0
        have z1 := HB1.out.frozen 1
        have z2 := HB1.out.frozen 2
        go_wp2
        have HBF := hid ((((HB1.out.set 0 (.slice D1 a1 b1)).set 1 (.slice D2 a2 b2)).set 2 (.slice D3 a3 b3)).cast (cs' := #[.slice D1 a1 b1, .slice D2 a2 b2, .slice D3 a3 b3]) (by simp))
        have XF := hid (Ext.put (Ext.put (Ext.put HX.out (p := ⟨w.heap.size + 1, 0, none⟩) (by simp only; omega) (.slice D1 a1 b1)) (p := ⟨w.heap.size + 1, 1, none⟩) (by simp only; omega) (.slice D2 a2 b2)) (p := ⟨w.heap.size + 1, 2, none⟩) (by simp only; omega) (.slice D3 a3 b3))
        have HFPF := hid (((HFP.out.put2 (a := ⟨w.heap.size + 1, 0, none⟩) (fun h => h.elim (fun h => by simp only at h; omega) (fun h => by simp only at h; omega)) (.slice D1 a1 b1)).put2 (a := ⟨w.heap.size + 1, 1, none⟩) (fun h => h.elim (fun h => by simp only at h; omega) (fun h => by simp only at h; omega)) (.slice D2 a2 b2)).put2 (a := ⟨w.heap.size + 1, 2, none⟩) (fun h => h.elim (fun h => by simp only at h; omega) (fun h => by simp only at h; omega)) (.slice D3 a3 b3))
        refine bodyPost_ret (results_blk2 rfl _ _ (w.heap.size + 1) 25 _ _ rfl HBF.out Tryd.underlying25 rfl (by kernel_rfl)) rfl ?_
        exact ⟨_, by rw [HRN.out]; rfl, by rw [HRN.out]; exact HFPF.out.V, XF.out⟩
    · have HRN := hid (HBAD.out hE)
      have e1 : ((E : Int) == 0) = false := beq_eq_false_iff_ne.2 (by omega)
      have e2 : ((E : Int) != 0) = true := by simp; omega
      clear hE HOKR HBAD
      by_cases hlt : j < k
      all_goals (
        have z0 := HB1.out.cell 0
        have z1 := HB1.out.cell 1
        have z2 := HB1.out.cell 2
        have y0 := HB1.out.frozen 0
        have y1 := HB1.out.frozen 1
        have y2 := HB1.out.frozen 2
        go_wp2
        have HBF := hid ((((HB1.out.set 0 (.slice none 0 0)).set 1 (.slice none 0 0)).set 2 (.slice none 0 0)).cast (cs' := #[.slice none 0 0, .slice none 0 0, .slice none 0 0]) (by simp))
        have XF := hid (Ext.put (Ext.put (Ext.put HX.out (p := ⟨w.heap.size + 1, 0, none⟩) (by simp only; omega) (.slice none 0 0)) (p := ⟨w.heap.size + 1, 1, none⟩) (by simp only; omega) (.slice none 0 0)) (p := ⟨w.heap.size + 1, 2, none⟩) (by simp only; omega) (.slice none 0 0))
        refine bodyPost_ret (results_blk2 rfl _ _ (w.heap.size + 1) 25 _ _ rfl HBF.out Tryd.underlying25 rfl (by kernel_rfl)) rfl ?_
        exact ⟨_, by rw [HRN.out]; rfl, by rw [HRN.out]; exact (fs0_P (fun _ => True) _).V, XF.out⟩)
theorem playedOf_any (f : Fs.FSy) (l : List Fs.Opn) (A : Option Addr) (k kc : Nat) (v : Value) (w : World) (hv : FsV w v f) (hb : Fs.FsB f) (hl : l.length = k) (hr : Rd w A (Fs.ops l)) (hkl : k ≤ 140737488355328) (hlb : ∀ o ∈ l, Fs.OpB o) :
    Calls Tryd.prog 23 #[v, .slice A k kc] w fun e w' => ∃ v', e = .returned (.tuple #[v', .int .i64 ((Fs.ply f l).2 : Nat)]) ∧ FsV w' v' (Fs.ply f l).1 ∧ Ext w w' := by
  by_cases h : Fs.fsck f = 0
  · by_cases h2 : 64 < l.length
    · exact playedOf_many f l A k kc v w hv hb hl hr hkl hlb h h2
    · exact playedOf_good f l A k kc v w hv hb hl hr hkl hlb h h2
  · exact playedOf_bad f l A k kc v w hv hb hl hr hkl hlb h
end Go.Proofs.YtolhifnlahllnaaDoor
end
