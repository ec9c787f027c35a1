/- Files: Crash: walk (printed by gen_ftk.py). Files: the document: pow2, CrashedOf: walks (printed by gen_ftl.py). Files: the law's helpers: op, fsBegun: walks (printed by gen_ftm.py). Files: the law FsTells: walk (printed by gen_ftn.py). -/
import Derived.Test.YtolhifnlahllnaaDoorFta
import Derived.Test.YtolhifnlahllnaaDoorGhl
import Derived.Test.YtolhifnlahllnaaDoorFze
import Derived.Test.YtolhifnlahllnaaDoorFtc
import Derived.Test.YtolhifnlahllnaaDoorFzd
section
namespace Hy.Fs
open Go
theorem crn_snoc (m : Nat) (l : List Nod) (x : Nod) : ∀ i, crn m i (l ++ [x]) = crn m i l ++ [if lnd m (i + l.length) then (x.1, x.1) else (x.2, x.2)] := by
  induction l with
  | nil => intro i; simp [crn]
  | cons y r ih => intro i; simp only [List.cons_append, crn, ih, List.length_cons]; rw [show i + 1 + r.length = i + (r.length + 1) by omega]
/-- the first k of them crashed -/
def crk (m : Nat) (l : List Nod) (k : Nat) : List Nod := crn m 0 (l.take k) ++ l.drop k
theorem crk_zero (m : Nat) (l : List Nod) : crk m l 0 = l := by simp [crk, crn]
theorem crk_all (m : Nat) (l : List Nod) : crk m l l.length = crn m 0 l := by simp [crk]
theorem crk_len (m : Nat) (l : List Nod) (k : Nat) (h : k ≤ l.length) : (crk m l k).length = l.length := by
  unfold crk; rw [List.length_append, crn_len, List.length_take, List.length_drop]; omega
theorem crk_at (m : Nat) (l : List Nod) (k : Nat) (h : k < l.length) : (crk m l k)[k]? = some l[k] := by
  unfold crk
  rw [List.getElem?_append_right (by rw [crn_len, List.length_take]; omega), crn_len, List.length_take, Nat.min_eq_left (by omega), Nat.sub_self, List.getElem?_drop, Nat.add_zero, List.getElem?_eq_getElem h]
theorem set_app {α : Type} (s r : List α) (y x : α) : (s ++ y :: r).set s.length x = s ++ x :: r := by
  induction s with
  | nil => rfl
  | cons z s ih => simp only [List.cons_append, List.length_cons, List.set_cons_succ, ih]
theorem crk_succ (m : Nat) (l : List Nod) (k : Nat) (h : k < l.length) : crk m l (k + 1) = (crk m l k).set k (if lnd m k then (l[k].1, l[k].1) else (l[k].2, l[k].2)) := by
  unfold crk
  have hl : (crn m 0 (l.take k)).length = k := by rw [crn_len, List.length_take]; omega
  have h2 := set_app (crn m 0 (l.take k)) (l.drop (k + 1)) l[k] (if lnd m k then (l[k].1, l[k].1) else (l[k].2, l[k].2))
  rw [hl] at h2
  rw [List.take_succ_eq_append_getElem h, crn_snoc, List.length_take, Nat.min_eq_left (by omega), Nat.zero_add, List.drop_eq_getElem_cons h, h2, List.append_assoc]
  rfl
theorem nds_set2 (l : List Nod) (k : Nat) (h : k < l.length) (a b : ByteArray) : ((nds l).set (k * 2) (.string a)).set (k * 2 + 1) (.string b) = nds (l.set k (a, b)) := by
  induction l generalizing k with
  | nil => simp at h
  | cons x r ih =>
    cases k with
    | zero => rfl
    | succ k =>
      have h' : k < r.length := by simpa using h
      have e : (k + 1) * 2 = (k * 2) + 2 := by omega
      have e2 : (k + 1) * 2 + 1 = (k * 2 + 1) + 2 := by omega
      have := ih k h'
      simp only [nds, List.flatMap_cons, nod2, List.cons_append, List.nil_append, e, List.set_cons_succ] at this ⊢
      rw [this]
theorem natU64_and' (a b : Nat) (ha : a < 18446744073709551616) (hb : b < 18446744073709551616) : bits .and .u64 (a : Int) (b : Int) = ((a &&& b : Nat) : Int) := by
  have hx : a &&& b < 18446744073709551616 := Nat.lt_of_le_of_lt Nat.and_le_left ha
  show IntKind.u64.wrap ((BitVec.ofInt 64 (a : Int) &&& BitVec.ofInt 64 (b : Int)).toNat : Int) = _
  rw [BitVec.toNat_and, BitVec.ofInt_natCast, BitVec.ofInt_natCast, BitVec.toNat_ofNat, BitVec.toNat_ofNat, Nat.mod_eq_of_lt (a := a) (by simpa using ha), Nat.mod_eq_of_lt (a := b) (by simpa using hb), IntKind.wrap_u64]
  omega
theorem lnd_bits (m i : Nat) (hm : m < 18446744073709551616) : (bits .and .u64 ((m : Int) / 2 ^ i) 1 != 0) = lnd m i := by
  have e : ((m : Int) / 2 ^ i) = ((m / 2 ^ i : Nat) : Int) := by simp
  have hlt : m / 2 ^ i < 18446744073709551616 := Nat.lt_of_le_of_lt (Nat.div_le_self _ _) hm
  have e2 : bits .and .u64 ((m / 2 ^ i : Nat) : Int) 1 = ((m / 2 ^ i % 2 : Nat) : Int) := by
    have h := natU64_and' (m / 2 ^ i) 1 hlt (by decide)
    rw [Nat.and_one_is_mod] at h
    exact h
  rw [e, e2]
  unfold lnd
  rcases Nat.mod_two_eq_zero_or_one (m / 2 ^ i) with h | h <;> rw [h] <;> rfl
end Hy.Fs
namespace Go.Proofs.YtolhifnlahllnaaDoor
open Go.RowKit Hy
set_option maxRecDepth 100000 in
theorem landed_any (m i g : Nat) (w : World) (hm : m < 18446744073709551616) (hi : i ≤ 63) (hg : w.cell? ⟨g, 0, none⟩ = some (.int .u64 (m : Nat))) :
    Calls Tryd.prog 41 #[.int .i64 i, .pointer (some ⟨g, 0, none⟩)] w fun e w' => e = .returned (.bool (Fs.lnd m i)) ∧ w = w' := by
  have hmI : (m : Int) < 18446744073709551616 := by omega
  have hiI : (i : Int) ≤ 63 := by omega
  have HM := hid hm
  have HI := hid hi
  clear hm hi
  go_enter Tryd.func41, Tryd.ntmps41
  go_wp2
  go_returns
  exact ⟨by rw [← Fs.lnd_bits m i HM.out]; rfl, rfl⟩
set_option maxHeartbeats 6400000 in
set_option maxRecDepth 100000 in
theorem crash_bad (f : Fs.FSy) (mk : Nat) (v : Value) (w : World) (hv : FsV w v f) (hb : Fs.FsB f) (hmk : mk < 18446744073709551616) (h : Fs.fsck f ≠ 0) :
    Calls Tryd.prog 14 #[v, .int .u64 mk] w fun e w' => ∃ v', e = .returned (.tuple #[v', .int .i64 ((Fs.crs f mk).2 : Nat)]) ∧ FsO w' w.heap.size v' (Fs.crs f mk).1 ∧ Ext w w' := by
  have HV := hid hv
  obtain ⟨NA, nc, DA, dc, SA, sc, rfl, _, _, _, _, _, _⟩ := hv
  obtain ⟨n, hn⟩ : ∃ n, n = f.1.length := ⟨_, rfl⟩
  obtain ⟨m, hm⟩ : ∃ n, n = f.2.1.length := ⟨_, rfl⟩
  obtain ⟨q, hq⟩ : ∃ n, n = f.2.2.length := ⟨_, rfl⟩
  have HCK := hid (fun wx (hx : Ext w wx) => check_V f _ wx (HV.out.keep hx) hb)
  rw [← hn, ← hm, ← hq] at HV HCK ⊢
  have HN := hid hn; have HM := hid hm; have HQ := hid hq
  have HMK := hid hmk
  have HR := hid (Fs.crs_bad (m := mk) h)
  obtain ⟨E, hE⟩ : ∃ E, E = Fs.fsck f := ⟨_, rfl⟩
  rw [← hE] at h HCK HR
  have e1 : ((E : Int) == 0) = false := beq_eq_false_iff_ne.2 (by omega)
  have e2 : ((E : Int) != 0) = true := by simp; omega
  clear hn hm hq hb hmk h hE
  go_enter Tryd.func14, Tryd.ntmps14
  go_upto_region 1 with fail
  refine wp_gen (fun w' => Ext w w' ∧ Blk w' w.heap.size 25 #[.slice NA n nc, .slice DA m dc, .slice SA q sc] ∧ Blk w' (w.heap.size + 1) 28 #[.int .u64 mk] ∧ Blk w' (w.heap.size + 1 + 1) 25 #[.slice none 0 0, .slice none 0 0, .slice none 0 0]) ⟨(((ext_refl _).new _).new _).new _, ((Blk.new _ _ _).alloc _).alloc _, (Blk.newAt (by simp)).alloc _, Blk.newAt (by simp)⟩ ?_
  rintro wz ⟨B0, B1, B2, B3⟩
  have XZ : Hid (Ext w wz) := hid B0
  have F1 := hid B1
  have F2 := hid B2
  have F3 := hid B3
  have p0 := B1.cell 0
  have p1 := B1.cell 1
  have p2 := B1.cell 2
  clear B0 B1 B2 B3
  go_wp2_with fail
  refine Calls.mono (HCK.out _ XZ.out) ?_
  rintro e w1 ⟨rfl, hx⟩
  replace XZ : Hid (Ext w w1) := hid (XZ.out.then hx)
  replace F1 := hid (F1.out.keep hx)
  replace F2 := hid (F2.out.keep hx)
  replace F3 := hid (F3.out.keep hx)
  clear hx p0 p1 p2
  have z0 := F3.out.cell 0
  have z1 := F3.out.cell 1
  have z2 := F3.out.cell 2
  have y0 := F3.out.frozen 0
  have y1 := F3.out.frozen 1
  have y2 := F3.out.frozen 2
  go_wp2
  have HBF := hid ((((F3.out.set 0 (.slice none 0 0)).set 1 (.slice none 0 0)).set 2 (.slice none 0 0)).cast (cs' := #[.slice none 0 0, .slice none 0 0, .slice none 0 0]) (by simp))
  have XF := hid (Ext.put (Ext.put (Ext.put XZ.out (p := ⟨w.heap.size + 1 + 1, 0, none⟩) (by simp only; omega) (.slice none 0 0)) (p := ⟨w.heap.size + 1 + 1, 1, none⟩) (by simp only; omega) (.slice none 0 0)) (p := ⟨w.heap.size + 1 + 1, 2, none⟩) (by simp only; omega) (.slice none 0 0))
  refine bodyPost_ret (results_blk2 rfl _ _ (w.heap.size + 1 + 1) 25 _ _ rfl HBF.out Tryd.underlying25 rfl (by kernel_rfl)) rfl ?_
  exact ⟨_, by rw [HR.out]; rfl, by rw [HR.out]; exact fs0_O _ _, XF.out⟩
set_option maxHeartbeats 6400000 in
set_option maxRecDepth 100000 in
theorem crash_yes (f : Fs.FSy) (mk : Nat) (v : Value) (w : World) (hv : FsV w v f) (hb : Fs.FsB f) (hmk : mk < 18446744073709551616) (h : Fs.fsck f = 0) (hl : Fs.lnd mk 63 = true) :
    Calls Tryd.prog 14 #[v, .int .u64 mk] w fun e w' => ∃ v', e = .returned (.tuple #[v', .int .i64 ((Fs.crs f mk).2 : Nat)]) ∧ FsO w' w.heap.size v' (Fs.crs f mk).1 ∧ Ext w w' := by
  have HV := hid hv
  obtain ⟨NA, nc, DA, dc, SA, sc, rfl, _, _, _, _, _, _⟩ := hv
  obtain ⟨n, hn⟩ : ∃ n, n = f.1.length := ⟨_, rfl⟩
  obtain ⟨m, hm⟩ : ∃ n, n = f.2.1.length := ⟨_, rfl⟩
  obtain ⟨q, hq⟩ : ∃ n, n = f.2.2.length := ⟨_, rfl⟩
  have HCK := hid (fun wx (hx : Ext w wx) => check_V f _ wx (HV.out.keep hx) hb)
  rw [← hn, ← hm, ← hq] at HV HCK ⊢
  have HN := hid hn; have HM := hid hm; have HQ := hid hq
  have HMK := hid hmk
  have HOK := hid (Fs.ok_iff.1 h)
  have HR := hid (Fs.crs_ok (m := mk) h)
  rw [h] at HCK
  have hmn := Fs.good_len HOK.out.dir
  have hqn := Fs.good_len HOK.out.syn
  have h24 := HOK.out.few
  have HLn := hid (show n ≤ 24 by omega)
  have HLm := hid (show m ≤ 24 by omega)
  have HLq := hid (show q ≤ 24 by omega)
  have hnI : (n : Int) ≤ 24 := by omega
  clear hn hm hq hb hmk h hmn hqn h24
  go_enter Tryd.func14, Tryd.ntmps14
  go_upto_region 1 with fail
  refine wp_gen (fun w' => Ext w w' ∧ Blk w' w.heap.size 25 #[.slice NA n nc, .slice DA m dc, .slice SA q sc] ∧ Blk w' (w.heap.size + 1) 28 #[.int .u64 mk] ∧ Blk w' (w.heap.size + 1 + 1) 25 #[.slice none 0 0, .slice none 0 0, .slice none 0 0]) ⟨(((ext_refl _).new _).new _).new _, ((Blk.new _ _ _).alloc _).alloc _, (Blk.newAt (by simp)).alloc _, Blk.newAt (by simp)⟩ ?_
  rintro wz ⟨B0, B1, B2, B3⟩
  have XZ : Hid (Ext w wz) := hid B0
  have F1 := hid B1
  have F2 := hid B2
  have F3 := hid B3
  have p0 := B1.cell 0
  have p1 := B1.cell 1
  have p2 := B1.cell 2
  clear B0 B1 B2 B3
  go_wp2_with fail
  refine Calls.mono (HCK.out _ XZ.out) ?_
  rintro e w1 ⟨rfl, hx⟩
  replace XZ : Hid (Ext w w1) := hid (XZ.out.then hx)
  replace F1 := hid (F1.out.keep hx)
  replace F2 := hid (F2.out.keep hx)
  replace F3 := hid (F3.out.keep hx)
  clear hx p0 p1 p2
  have p0 := F1.out.cell 0
  have p1 := F1.out.cell 1
  have p2 := F1.out.cell 2
  go_wp2_with fail
  refine Calls.mono (own_V f _ _ (HV.out.keep XZ.out) HOK.out) ?_
  rintro e w3 ⟨g, rfl, hdk, hx⟩
  obtain ⟨A1, c1, A2, c2, A3, c3, hbk, hbg, o1, o2, o3, hdj⟩ := hdk
  obtain ⟨B, hB⟩ : ∃ B, B = w1.heap.size := ⟨_, rfl⟩
  rw [← hB] at hbg o1 o2 o3
  have HBW := hid (show w.heap.size + 3 ≤ B by have := F3.out.lt; omega)
  have HB3 := hid (show B ≤ w3.heap.size by rw [hB]; exact hx.size)
  have HO1 := hid o1; have HO2 := hid o2; have HO3 := hid o3
  have HDJ := hid hdj; have HBG := hid hbg
  have HA2 := hid (show ∀ a, A2 = some a → a.block < w3.heap.size from fun a ha => by subst ha; exact (own_block_rng o2 rfl).2)
  have HA3 := hid (show ∀ a, A3 = some a → a.block < w3.heap.size from fun a ha => by subst ha; exact (own_block_rng o3 rfl).2)
  rw [← HN.out, ← HM.out, ← HQ.out] at hbk
  rw [← HN.out] at HO1
  rw [← HM.out] at HO2
  rw [← HQ.out] at HO3
  have BG := hid hbk
  replace XZ : Hid (Ext w w3) := hid (XZ.out.then hx)
  replace F2 := hid (F2.out.keep hx)
  replace F3 := hid (F3.out.keep hx)
  clear F1 hx p0 p1 p2 hdj hbk hbg o1 o2 o3 hB
  have gB := HBG.out
  have gW := HBW.out
  have ng2 : ¬ w.heap.size + 1 + 1 = g := by omega
  have ng3 : ¬ g = w.heap.size + 1 + 1 := by omega
  have ng4 : ¬ w.heap.size + 1 = g := by omega
  clear gB gW
  have m0 := F2.out.cell 0
  have HL63 := hid (fun wx (hx : wx.cell? ⟨w.heap.size + 1, 0, none⟩ = some (.int .u64 (mk : Nat))) => landed_any mk 63 (w.heap.size + 1) wx HMK.out (by decide) hx)
  rw [hl] at HL63
  go_wp2_with fail
  refine (HL63.out _ m0).mono ?_
  rintro e w4 ⟨rfl, rfl⟩
  have k0 := BG.out.cell 0
  have k1 := BG.out.cell 1
  have k2 := BG.out.cell 2
  have kf := BG.out.frozen 2
  go_wp2_with fail
  refine (cloneE_any f.2.1 A2 m c2 w3 HM.out.symm (own_rd HO2.out).1 (own_rd HO2.out).2.1 (by have := HLm.out; omega)).mono ?_
  rintro e w5 ⟨E2, e2, rfl, ow, hx⟩
  replace XZ : Hid (Ext w w5) := hid (XZ.out.then hx)
  replace F2 := hid (F2.out.keep hx)
  replace F3 := hid (F3.out.keep hx)
  replace BG := hid (BG.out.keep hx)
  replace HO1 := hid (own_ext HO1.out hx)
  replace HO2 := hid (own_ext HO2.out hx)
  replace HO3 := hid (own_ext HO3.out hx)
  have HW2 := hid (show B ≤ w3.heap.size from HB3.out)
  replace HB3 := hid (show B ≤ w5.heap.size from Nat.le_trans HB3.out hx.size)
  have R2 := hid (own_low' ow HW2.out)
  have N2 := hid (fun a (ha : E2 = some a) => (show w3.heap.size ≤ a.block by subst ha; exact (own_block_rng ow rfl).1))
  clear k0 k1 k2 kf m0 ow hx
  have m0 := F2.out.cell 0
  have k0 := BG.out.cell 0
  have k1 := BG.out.cell 1
  have k2 := BG.out.cell 2
  have kf := BG.out.frozen 2
  go_upto_region 9 with fail
  replace HO1 := hid (own_put HO1.out (p := ⟨g, 2, none⟩) (own_nblk HO1.out BG.out (by decide)) (.slice E2 m e2))
  replace HO2 := hid (own_put HO2.out (p := ⟨g, 2, none⟩) (own_nblk HO2.out BG.out (by decide)) (.slice E2 m e2))
  replace HO3 := hid (own_put HO3.out (p := ⟨g, 2, none⟩) (own_nblk HO3.out BG.out (by decide)) (.slice E2 m e2))
  replace R2 := hid (own_put R2.out (p := ⟨g, 2, none⟩) (own_nblk R2.out BG.out (by decide)) (.slice E2 m e2))
  replace BG := hid ((BG.out.set 2 (.slice E2 m e2)).cast (cs' := #[.slice A1 n c1, .slice A2 m c2, .slice E2 m e2]) (by simp))
  replace XZ := hid (Ext.put XZ.out (p := ⟨g, 2, none⟩) (by have := HBG.out; have := HBW.out; simp only; omega) (.slice E2 m e2))
  replace F2 := hid (F2.out.far (p := ⟨g, 2, none⟩) ng4 (.slice E2 m e2))
  replace F3 := hid (F3.out.far (p := ⟨g, 2, none⟩) ng2 (.slice E2 m e2))
  replace HB3 := hid (show B ≤ (w5.setCell ⟨g, 2, none⟩ (.slice E2 m e2)).heap.size by rw [size_put]; exact HB3.out)
  clear k0 k1 k2 kf m0
  generalize w5.setCell ⟨g, 2, none⟩ (.slice E2 m e2) = y2 at *
  have m0 := F2.out.cell 0
  have HCD := hid (show Fs.crd f mk = f.2.1 by unfold Fs.crd; rw [if_pos hl])
  have HDJ2 := hid (show ∀ a2 a3, A2 = some a2 → E2 = some a3 → a2.block ≠ a3.block from fun a2 a3 h2 h3 => by have := N2.out a3 h3; have := HA2.out a2 h2; omega)
  have k0 := BG.out.cell 0
  have k1 := BG.out.cell 1
  have k2 := BG.out.cell 2
  go_wp2
  have HGN := hid (show (Value.slice A1 n c1).ownBlock ≠ some g from own_nblk HO1.out BG.out (by decide))
  have HN2 := hid (own_ne HO2.out HO1.out (by decide))
  have HN3 := hid (own_ne R2.out HO1.out (by decide))
  have HS1 := hid (fun b (hb : (Value.slice A1 n c1).ownBlock = some b) => (own_block_rng HO1.out hb).1)
  clear m0 k0 k1 k2
  go_loopw [49] (fun c wr => ∃ k : Nat, k ≤ n ∧ c = .int .i64 k ∧ Hid (wr.ownsRow B 49 2 (.slice A1 n c1) n (nds (Fs.crk mk f.1 k))) ∧ Hid (y2.grownBy wr (Value.slice A1 n c1).ownBlock)) (fun c _ => n - (intOf c).toNat)
  case atStart => exact ⟨0, Nat.zero_le _, rfl, by rw [Fs.crk_zero]; exact HO1, hid ⟨rfl, rfl, rfl, Nat.le_refl _, fun _ _ _ => rfl⟩⟩
  case round =>
    obtain ⟨k, hk, rfl, HO, HX⟩ := hrel
    have BGr := hid (Blk.grown BG.out HX.out HGN.out)
    have F2r := hid (Blk.grown F2.out HX.out (fun e => by have := HS1.out _ e; have := HBW.out; omega))
    have m0 := F2r.out.cell 0
    have k0 := BGr.out.cell 0
    by_cases hlt : k < n
    · have hkf : k < f.1.length := by rw [← HN.out]; exact hlt
      have hk24 : k ≤ 24 := by have := HLn.out; omega
      obtain ⟨gb, rfl⟩ := own_some HO.out (by omega)
      have hcl : k < (Fs.crk mk f.1 k).length := by rw [Fs.crk_len _ _ _ (by omega)]; exact hkf
      obtain ⟨b4, o4, e4, l4, c4⟩ := (own_rd HO.out).1.nodes k hcl
      cases e4
      have d0 := (c4 k hcl).1
      have d1 := (c4 k hcl).2
      have hat := Fs.crk_at mk f.1 k hkf
      rw [List.getElem?_eq_getElem hcl] at hat
      injection hat with hat
      rw [hat, Nat.zero_add] at d0 d1
      obtain ⟨cur, hcur⟩ := own_block HO.out
      have HCU := hid hcur
      have HSC := hid (Fs.crk_succ mk f.1 k hkf)
      have HST := hid (fun a b => Fs.nds_set2 (Fs.crk mk f.1 k) k hcl a b)
      have HLK := hid (fun wx (hx : wx.cell? ⟨w.heap.size + 1, 0, none⟩ = some (.int .u64 (mk : Nat))) => landed_any mk k (w.heap.size + 1) wx HMK.out (by omega) hx)
      have hkI : (k : Int) < (n : Int) := by omega
      have gm := F2r.out.lt
      have HNG := hid (show g ≠ gb from fun e => HGN.out (by rw [e]; rfl))
      have HBB := hid (show B ≤ gb from HS1.out _ rfl)
      generalize f.1[k] = x at *
      obtain ⟨s, t⟩ := x
      simp only at d0 d1 HSC
      have HD0 := hid d0; have HD1 := hid d1
      clear c4 l4 hcur hat hcl hkf hk24
      cases hlk : Fs.lnd mk k
      · rw [hlk] at HLK HSC
        clear hlk
        have XA0 := hid (Ext.new (ext_refl wr) (.cells #[.string s, .string t] 49))
        have XA := hid (Ext.new (ext_refl wr) (.cells #[.string t, .string t] 49))
        have gm' : w.heap.size + 1 ≠ wr.heap.size := by omega
        have HS' := hid (show Fs.crk mk f.1 (k + 1) = (Fs.crk mk f.1 k).set k (t, t) by rw [HSC.out]; rfl)
        have q0 := (Blk.new wr 49 #[.string t, .string t]).cell 0
        have e0 := ext_cell XA.out HD0.out
        have e1 := ext_cell XA.out HD1.out
        have kz := ext_cell XA.out k0
        have fz0 := (HCU.out.keep XA.out).frozen (k * 2)
        have fz1 := (HCU.out.keep XA.out).frozen (k * 2 + 1)
        go_wp2_with fail
        refine (HLK.out _ (ext_cell XA0.out m0)).mono ?_
        rintro e w6 ⟨rfl, rfl⟩
        clear gm'
        go_upto_region 14 with fail
        have q0r := cell_regrown q0
        have kzr := cell_regrown kz
        refine wp_region_late [12] [] [(0, true), (1, true), (2, true), (3, true), (4, true), (5, true), (6, true), (7, true), (8, true), (9, true), (10, true), (11, true), (12, false)] (by kernel_rfl) (by kernel_rfl) (fun _ _ _ _ _ h => h) (by kernel_rfl) (by rfl) ?_
        simp only [List.filterMap_cons, List.filterMap_nil, List.getElem?_toArray, List.getElem?_cons_zero, List.getElem?_cons_succ, Option.map_some, List.contains_cons, List.contains_nil, Nat.reduceBEq, Bool.or_false]
        repeat ((first | refine wpL_val (by rfl) ?_ | refine wpL_pure (by rfl) ?_); intro K hK; go_big_quiet_op; go_big_quiet_on)
        refine wpL_late (by rfl) ?_
        intro K hK
        go_simp
        refine hK _ _ ?_
        clear K hK q0r kzr
        refine wpL_nil ?_
        go_wp2
        go_roundw
        case rel => exact ⟨k + 1, by omega, by go_num, by rw [HS'.out, ← HST.out t t]; exact hid (own_ext (own_set (own_set (own_ext HO.out XA.out) rfl (k * 2) (.string t)) rfl (k * 2 + 1) (.string t)) (ext_refl _).draw), hid (grown_then (But.put (But.put (grown_then HX.out (grown_ext XA.out)) ⟨gb, k * 2, none⟩ (.inl rfl) (.string t)) ⟨gb, k * 2 + 1, none⟩ (.inl rfl) (.string t)) (grown_ext (ext_refl _).draw))⟩
        case measure => simp [intOf] <;> omega
      · rw [hlk] at HLK HSC
        clear hlk
        have XA0 := hid (Ext.new (ext_refl wr) (.cells #[.string s, .string t] 49))
        have XA := hid (Ext.new (ext_refl wr) (.cells #[.string s, .string t] 49))
        have gm' : w.heap.size + 1 ≠ wr.heap.size := by omega
        have HS' := hid (show Fs.crk mk f.1 (k + 1) = (Fs.crk mk f.1 k).set k (s, s) by rw [HSC.out]; rfl)
        have q0 := (Blk.new wr 49 #[.string s, .string t]).cell 0
        have e0 := ext_cell XA.out HD0.out
        have e1 := ext_cell XA.out HD1.out
        have kz := ext_cell XA.out k0
        have fz0 := (HCU.out.keep XA.out).frozen (k * 2)
        have fz1 := (HCU.out.keep XA.out).frozen (k * 2 + 1)
        go_wp2_with fail
        refine (HLK.out _ (ext_cell XA0.out m0)).mono ?_
        rintro e w6 ⟨rfl, rfl⟩
        clear gm'
        go_upto_region 14 with fail
        have q0r := cell_regrown q0
        have kzr := cell_regrown kz
        refine wp_region_late [12] [] [(0, true), (1, true), (2, true), (3, true), (4, true), (5, true), (6, true), (7, true), (8, true), (9, true), (10, true), (11, true), (12, false)] (by kernel_rfl) (by kernel_rfl) (fun _ _ _ _ _ h => h) (by kernel_rfl) (by rfl) ?_
        simp only [List.filterMap_cons, List.filterMap_nil, List.getElem?_toArray, List.getElem?_cons_zero, List.getElem?_cons_succ, Option.map_some, List.contains_cons, List.contains_nil, Nat.reduceBEq, Bool.or_false]
        repeat ((first | refine wpL_val (by rfl) ?_ | refine wpL_pure (by rfl) ?_); intro K hK; go_big_quiet_op; go_big_quiet_on)
        refine wpL_late (by rfl) ?_
        intro K hK
        go_simp
        refine hK _ _ ?_
        clear K hK q0r kzr
        refine wpL_nil ?_
        go_wp2
        go_roundw
        case rel => exact ⟨k + 1, by omega, by go_num, by rw [HS'.out, ← HST.out s s]; exact hid (own_ext (own_set (own_set (own_ext HO.out XA.out) rfl (k * 2) (.string s)) rfl (k * 2 + 1) (.string s)) (ext_refl _).draw), hid (grown_then (But.put (But.put (grown_then HX.out (grown_ext XA.out)) ⟨gb, k * 2, none⟩ (.inl rfl) (.string s)) ⟨gb, k * 2 + 1, none⟩ (.inl rfl) (.string s)) (grown_ext (ext_refl _).draw))⟩
        case measure => simp [intOf] <;> omega
    · obtain rfl : n = k := by omega
      have hall : Fs.crk mk f.1 n = Fs.crn mk 0 f.1 := by rw [HN.out, Fs.crk_all]
      rw [hall] at HO
      have F3r := hid (Blk.grown F3.out HX.out (fun e => by have := HS1.out _ e; have := HBW.out; omega))
      have O2r := hid (HO2.out.kept HX.out HN2.out)
      have O3r := hid (R2.out.kept HX.out HN3.out)
      have XW : Hid (Ext w wr) := hid (Below.grown XZ.out HX.out (XZ.out.size) (fun j hj => by have := HS1.out _ hj; have := HBW.out; omega))
      have HBR := hid (show B ≤ wr.heap.size from Nat.le_trans HB3.out HX.out.size)
      have HCL := hid (show (Fs.crn mk 0 f.1).length = n by rw [Fs.crn_len]; exact HN.out.symm)
      have HLL := hid (show f.2.1.length = m from HM.out.symm)
      have DK : Hid (Dsk wr B g (Fs.crn mk 0 f.1, f.2.1, f.2.1)) := hid ⟨A1, c1, A2, c2, E2, e2, by simp only; rw [HCL.out, HLL.out]; exact BGr.out, HBG.out, by simp only; rw [HCL.out]; exact HO.out, by simp only; rw [HLL.out]; exact O2r.out, by simp only; rw [HLL.out]; exact O3r.out, HDJ2.out⟩
      have HGL := hid (show Fs.Good (Fs.crn mk 0 f.1).length f.2.1 by rw [Fs.crn_len]; exact HOK.out.dir)
      have HSP := hid (swept_V (Fs.crn mk 0 f.1, f.2.1, f.2.1) B g wr DK.out HBR.out (by simp only; rw [HCL.out]; exact HLn.out) HGL.out HGL.out)
      have HRR := hid (show Fs.crs f mk = (Fs.swp (Fs.crn mk 0 f.1, f.2.1, f.2.1), 0) by rw [HR.out, HCD.out])
      clear hall hlt hk
      go_wp2_with fail
      refine HSP.out.mono ?_
      rintro e w8 ⟨v8, rfl, hf8, hx8⟩
      have FO := hid hf8
      have X8 : Hid (Ext w w8) := hid (Below.trans XW.out (Below.mono hx8 (by have := HBW.out; omega)))
      have F8 := hid (F3r.out.below hx8 (by have := HBW.out; omega))
      obtain ⟨S1, b1, S2, b2, S3, b3, rfl, _, _, _⟩ := hf8
      obtain ⟨FW, hFW⟩ : ∃ F, F = Fs.swp (Fs.crn mk 0 f.1, f.2.1, f.2.1) := ⟨_, rfl⟩
      rw [← hFW] at FO HRR ⊢
      obtain ⟨n8, hn8⟩ : ∃ n, n = FW.1.length := ⟨_, rfl⟩
      obtain ⟨m8, hm8⟩ : ∃ n, n = FW.2.1.length := ⟨_, rfl⟩
      obtain ⟨q8, hq8⟩ : ∃ n, n = FW.2.2.length := ⟨_, rfl⟩
      rw [← hn8, ← hm8, ← hq8] at FO
      rw [← hn8, ← hm8, ← hq8]
      have t0 := F8.out.cell 0
      have t1 := F8.out.cell 1
      have t2 := F8.out.cell 2
      have x0 := F8.out.frozen 0
      have x1 := F8.out.frozen 1
      have x2 := F8.out.frozen 2
      clear hx8 hFW hn8 hm8 hq8
      go_wp2
      have hne : w.heap.size + 1 + 1 < B := by have := HBW.out; omega
      have HBF := hid ((((F8.out.set 0 (.slice S1 n8 b1)).set 1 (.slice S2 m8 b2)).set 2 (.slice S3 q8 b3)).cast (cs' := #[.slice S1 n8 b1, .slice S2 m8 b2, .slice S3 q8 b3]) (by simp))
      have XF := hid (Ext.put (Ext.put (Ext.put X8.out (p := ⟨w.heap.size + 1 + 1, 0, none⟩) (by simp only; omega) (.slice S1 n8 b1)) (p := ⟨w.heap.size + 1 + 1, 1, none⟩) (by simp only; omega) (.slice S2 m8 b2)) (p := ⟨w.heap.size + 1 + 1, 2, none⟩) (by simp only; omega) (.slice S3 q8 b3))
      refine bodyPost_ret (results_blk2 rfl _ _ (w.heap.size + 1 + 1) 25 _ _ rfl HBF.out Tryd.underlying25 rfl (by kernel_rfl)) rfl ?_
      exact ⟨_, by rw [HRR.out]; rfl, by rw [HRR.out]; exact (((FO.out.put (p := ⟨w.heap.size + 1 + 1, 0, none⟩) hne _).put (p := ⟨w.heap.size + 1 + 1, 1, none⟩) hne _).put (p := ⟨w.heap.size + 1 + 1, 2, none⟩) hne _).low (by have := HBW.out; omega), XF.out⟩
set_option maxHeartbeats 6400000 in
set_option maxRecDepth 100000 in
theorem crash_no (f : Fs.FSy) (mk : Nat) (v : Value) (w : World) (hv : FsV w v f) (hb : Fs.FsB f) (hmk : mk < 18446744073709551616) (h : Fs.fsck f = 0) (hl : Fs.lnd mk 63 = false) :
    Calls Tryd.prog 14 #[v, .int .u64 mk] w fun e w' => ∃ v', e = .returned (.tuple #[v', .int .i64 ((Fs.crs f mk).2 : Nat)]) ∧ FsO w' w.heap.size v' (Fs.crs f mk).1 ∧ Ext w w' := by
  have HV := hid hv
  obtain ⟨NA, nc, DA, dc, SA, sc, rfl, _, _, _, _, _, _⟩ := hv
  obtain ⟨n, hn⟩ : ∃ n, n = f.1.length := ⟨_, rfl⟩
  obtain ⟨m, hm⟩ : ∃ n, n = f.2.1.length := ⟨_, rfl⟩
  obtain ⟨q, hq⟩ : ∃ n, n = f.2.2.length := ⟨_, rfl⟩
  have HCK := hid (fun wx (hx : Ext w wx) => check_V f _ wx (HV.out.keep hx) hb)
  rw [← hn, ← hm, ← hq] at HV HCK ⊢
  have HN := hid hn; have HM := hid hm; have HQ := hid hq
  have HMK := hid hmk
  have HOK := hid (Fs.ok_iff.1 h)
  have HR := hid (Fs.crs_ok (m := mk) h)
  rw [h] at HCK
  have hmn := Fs.good_len HOK.out.dir
  have hqn := Fs.good_len HOK.out.syn
  have h24 := HOK.out.few
  have HLn := hid (show n ≤ 24 by omega)
  have HLm := hid (show m ≤ 24 by omega)
  have HLq := hid (show q ≤ 24 by omega)
  have hnI : (n : Int) ≤ 24 := by omega
  clear hn hm hq hb hmk h hmn hqn h24
  go_enter Tryd.func14, Tryd.ntmps14
  go_upto_region 1 with fail
  refine wp_gen (fun w' => Ext w w' ∧ Blk w' w.heap.size 25 #[.slice NA n nc, .slice DA m dc, .slice SA q sc] ∧ Blk w' (w.heap.size + 1) 28 #[.int .u64 mk] ∧ Blk w' (w.heap.size + 1 + 1) 25 #[.slice none 0 0, .slice none 0 0, .slice none 0 0]) ⟨(((ext_refl _).new _).new _).new _, ((Blk.new _ _ _).alloc _).alloc _, (Blk.newAt (by simp)).alloc _, Blk.newAt (by simp)⟩ ?_
  rintro wz ⟨B0, B1, B2, B3⟩
  have XZ : Hid (Ext w wz) := hid B0
  have F1 := hid B1
  have F2 := hid B2
  have F3 := hid B3
  have p0 := B1.cell 0
  have p1 := B1.cell 1
  have p2 := B1.cell 2
  clear B0 B1 B2 B3
  go_wp2_with fail
  refine Calls.mono (HCK.out _ XZ.out) ?_
  rintro e w1 ⟨rfl, hx⟩
  replace XZ : Hid (Ext w w1) := hid (XZ.out.then hx)
  replace F1 := hid (F1.out.keep hx)
  replace F2 := hid (F2.out.keep hx)
  replace F3 := hid (F3.out.keep hx)
  clear hx p0 p1 p2
  have p0 := F1.out.cell 0
  have p1 := F1.out.cell 1
  have p2 := F1.out.cell 2
  go_wp2_with fail
  refine Calls.mono (own_V f _ _ (HV.out.keep XZ.out) HOK.out) ?_
  rintro e w3 ⟨g, rfl, hdk, hx⟩
  obtain ⟨A1, c1, A2, c2, A3, c3, hbk, hbg, o1, o2, o3, hdj⟩ := hdk
  obtain ⟨B, hB⟩ : ∃ B, B = w1.heap.size := ⟨_, rfl⟩
  rw [← hB] at hbg o1 o2 o3
  have HBW := hid (show w.heap.size + 3 ≤ B by have := F3.out.lt; omega)
  have HB3 := hid (show B ≤ w3.heap.size by rw [hB]; exact hx.size)
  have HO1 := hid o1; have HO2 := hid o2; have HO3 := hid o3
  have HDJ := hid hdj; have HBG := hid hbg
  have HA2 := hid (show ∀ a, A2 = some a → a.block < w3.heap.size from fun a ha => by subst ha; exact (own_block_rng o2 rfl).2)
  have HA3 := hid (show ∀ a, A3 = some a → a.block < w3.heap.size from fun a ha => by subst ha; exact (own_block_rng o3 rfl).2)
  rw [← HN.out, ← HM.out, ← HQ.out] at hbk
  rw [← HN.out] at HO1
  rw [← HM.out] at HO2
  rw [← HQ.out] at HO3
  have BG := hid hbk
  replace XZ : Hid (Ext w w3) := hid (XZ.out.then hx)
  replace F2 := hid (F2.out.keep hx)
  replace F3 := hid (F3.out.keep hx)
  clear F1 hx p0 p1 p2 hdj hbk hbg o1 o2 o3 hB
  have gB := HBG.out
  have gW := HBW.out
  have ng2 : ¬ w.heap.size + 1 + 1 = g := by omega
  have ng3 : ¬ g = w.heap.size + 1 + 1 := by omega
  have ng4 : ¬ w.heap.size + 1 = g := by omega
  clear gB gW
  have m0 := F2.out.cell 0
  have HL63 := hid (fun wx (hx : wx.cell? ⟨w.heap.size + 1, 0, none⟩ = some (.int .u64 (mk : Nat))) => landed_any mk 63 (w.heap.size + 1) wx HMK.out (by decide) hx)
  rw [hl] at HL63
  go_wp2_with fail
  refine (HL63.out _ m0).mono ?_
  rintro e w4 ⟨rfl, rfl⟩
  have k0 := BG.out.cell 0
  have k1 := BG.out.cell 1
  have k2 := BG.out.cell 2
  have kf := BG.out.frozen 1
  go_wp2_with fail
  refine (cloneE_any f.2.2 A3 q c3 w3 HQ.out.symm (own_rd HO3.out).1 (own_rd HO3.out).2.1 (by have := HLq.out; omega)).mono ?_
  rintro e w5 ⟨E2, e2, rfl, ow, hx⟩
  replace XZ : Hid (Ext w w5) := hid (XZ.out.then hx)
  replace F2 := hid (F2.out.keep hx)
  replace F3 := hid (F3.out.keep hx)
  replace BG := hid (BG.out.keep hx)
  replace HO1 := hid (own_ext HO1.out hx)
  replace HO2 := hid (own_ext HO2.out hx)
  replace HO3 := hid (own_ext HO3.out hx)
  have HW2 := hid (show B ≤ w3.heap.size from HB3.out)
  replace HB3 := hid (show B ≤ w5.heap.size from Nat.le_trans HB3.out hx.size)
  have R2 := hid (own_low' ow HW2.out)
  have N2 := hid (fun a (ha : E2 = some a) => (show w3.heap.size ≤ a.block by subst ha; exact (own_block_rng ow rfl).1))
  clear k0 k1 k2 kf m0 ow hx
  have m0 := F2.out.cell 0
  have k0 := BG.out.cell 0
  have k1 := BG.out.cell 1
  have k2 := BG.out.cell 2
  have kf := BG.out.frozen 1
  go_upto_region 8 with fail
  replace HO1 := hid (own_put HO1.out (p := ⟨g, 1, none⟩) (own_nblk HO1.out BG.out (by decide)) (.slice E2 q e2))
  replace HO2 := hid (own_put HO2.out (p := ⟨g, 1, none⟩) (own_nblk HO2.out BG.out (by decide)) (.slice E2 q e2))
  replace HO3 := hid (own_put HO3.out (p := ⟨g, 1, none⟩) (own_nblk HO3.out BG.out (by decide)) (.slice E2 q e2))
  replace R2 := hid (own_put R2.out (p := ⟨g, 1, none⟩) (own_nblk R2.out BG.out (by decide)) (.slice E2 q e2))
  replace BG := hid ((BG.out.set 1 (.slice E2 q e2)).cast (cs' := #[.slice A1 n c1, .slice E2 q e2, .slice A3 q c3]) (by simp))
  replace XZ := hid (Ext.put XZ.out (p := ⟨g, 1, none⟩) (by have := HBG.out; have := HBW.out; simp only; omega) (.slice E2 q e2))
  replace F2 := hid (F2.out.far (p := ⟨g, 1, none⟩) ng4 (.slice E2 q e2))
  replace F3 := hid (F3.out.far (p := ⟨g, 1, none⟩) ng2 (.slice E2 q e2))
  replace HB3 := hid (show B ≤ (w5.setCell ⟨g, 1, none⟩ (.slice E2 q e2)).heap.size by rw [size_put]; exact HB3.out)
  clear k0 k1 k2 kf m0
  generalize w5.setCell ⟨g, 1, none⟩ (.slice E2 q e2) = y1 at *
  have m0 := F2.out.cell 0
  have HE2 := hid (show ∀ a, E2 = some a → a.block < y1.heap.size from fun a ha => by subst ha; exact (own_block_rng R2.out rfl).2)
  have k0 := BG.out.cell 0
  have k1 := BG.out.cell 1
  have k2 := BG.out.cell 2
  have kf := BG.out.frozen 2
  go_wp2_with fail
  refine (cloneE_any f.2.2 E2 q e2 y1 HQ.out.symm (own_rd R2.out).1 (own_rd R2.out).2.1 (by have := HLq.out; omega)).mono ?_
  rintro e w6 ⟨E3, e3, rfl, ow, hx⟩
  replace XZ : Hid (Ext w w6) := hid (XZ.out.then hx)
  replace F2 := hid (F2.out.keep hx)
  replace F3 := hid (F3.out.keep hx)
  replace BG := hid (BG.out.keep hx)
  replace HO1 := hid (own_ext HO1.out hx)
  replace HO2 := hid (own_ext HO2.out hx)
  replace HO3 := hid (own_ext HO3.out hx)
  replace R2 := hid (own_ext R2.out hx)
  have HW3 := hid (show B ≤ y1.heap.size from HB3.out)
  replace HB3 := hid (show B ≤ w6.heap.size from Nat.le_trans HB3.out hx.size)
  have R3 := hid (own_low' ow HW3.out)
  have N3 := hid (fun a (ha : E3 = some a) => (show y1.heap.size ≤ a.block by subst ha; exact (own_block_rng ow rfl).1))
  clear k0 k1 k2 kf m0 ow hx
  have m0 := F2.out.cell 0
  have k0 := BG.out.cell 0
  have k1 := BG.out.cell 1
  have k2 := BG.out.cell 2
  have kf := BG.out.frozen 2
  go_upto_region 9 with fail
  replace HO1 := hid (own_put HO1.out (p := ⟨g, 2, none⟩) (own_nblk HO1.out BG.out (by decide)) (.slice E3 q e3))
  replace HO2 := hid (own_put HO2.out (p := ⟨g, 2, none⟩) (own_nblk HO2.out BG.out (by decide)) (.slice E3 q e3))
  replace HO3 := hid (own_put HO3.out (p := ⟨g, 2, none⟩) (own_nblk HO3.out BG.out (by decide)) (.slice E3 q e3))
  replace R2 := hid (own_put R2.out (p := ⟨g, 2, none⟩) (own_nblk R2.out BG.out (by decide)) (.slice E3 q e3))
  replace R3 := hid (own_put R3.out (p := ⟨g, 2, none⟩) (own_nblk R3.out BG.out (by decide)) (.slice E3 q e3))
  replace BG := hid ((BG.out.set 2 (.slice E3 q e3)).cast (cs' := #[.slice A1 n c1, .slice E2 q e2, .slice E3 q e3]) (by simp))
  replace XZ := hid (Ext.put XZ.out (p := ⟨g, 2, none⟩) (by have := HBG.out; have := HBW.out; simp only; omega) (.slice E3 q e3))
  replace F2 := hid (F2.out.far (p := ⟨g, 2, none⟩) ng4 (.slice E3 q e3))
  replace F3 := hid (F3.out.far (p := ⟨g, 2, none⟩) ng2 (.slice E3 q e3))
  replace HB3 := hid (show B ≤ (w6.setCell ⟨g, 2, none⟩ (.slice E3 q e3)).heap.size by rw [size_put]; exact HB3.out)
  clear k0 k1 k2 kf m0
  generalize w6.setCell ⟨g, 2, none⟩ (.slice E3 q e3) = y2 at *
  have m0 := F2.out.cell 0
  have HCD := hid (show Fs.crd f mk = f.2.2 by unfold Fs.crd; rw [hl]; rfl)
  have HDJ2 := hid (show ∀ a2 a3, E2 = some a2 → E3 = some a3 → a2.block ≠ a3.block from fun a2 a3 h2 h3 => by have := N3.out a3 h3; have := HE2.out a2 h2; omega)
  have k0 := BG.out.cell 0
  have k1 := BG.out.cell 1
  have k2 := BG.out.cell 2
  go_wp2
  have HGN := hid (show (Value.slice A1 n c1).ownBlock ≠ some g from own_nblk HO1.out BG.out (by decide))
  have HN2 := hid (own_ne R2.out HO1.out (by decide))
  have HN3 := hid (own_ne R3.out HO1.out (by decide))
  have HS1 := hid (fun b (hb : (Value.slice A1 n c1).ownBlock = some b) => (own_block_rng HO1.out hb).1)
  clear m0 k0 k1 k2
  go_loopw [49] (fun c wr => ∃ k : Nat, k ≤ n ∧ c = .int .i64 k ∧ Hid (wr.ownsRow B 49 2 (.slice A1 n c1) n (nds (Fs.crk mk f.1 k))) ∧ Hid (y2.grownBy wr (Value.slice A1 n c1).ownBlock)) (fun c _ => n - (intOf c).toNat)
  case atStart => exact ⟨0, Nat.zero_le _, rfl, by rw [Fs.crk_zero]; exact HO1, hid ⟨rfl, rfl, rfl, Nat.le_refl _, fun _ _ _ => rfl⟩⟩
  case round =>
    obtain ⟨k, hk, rfl, HO, HX⟩ := hrel
    have BGr := hid (Blk.grown BG.out HX.out HGN.out)
    have F2r := hid (Blk.grown F2.out HX.out (fun e => by have := HS1.out _ e; have := HBW.out; omega))
    have m0 := F2r.out.cell 0
    have k0 := BGr.out.cell 0
    by_cases hlt : k < n
    · have hkf : k < f.1.length := by rw [← HN.out]; exact hlt
      have hk24 : k ≤ 24 := by have := HLn.out; omega
      obtain ⟨gb, rfl⟩ := own_some HO.out (by omega)
      have hcl : k < (Fs.crk mk f.1 k).length := by rw [Fs.crk_len _ _ _ (by omega)]; exact hkf
      obtain ⟨b4, o4, e4, l4, c4⟩ := (own_rd HO.out).1.nodes k hcl
      cases e4
      have d0 := (c4 k hcl).1
      have d1 := (c4 k hcl).2
      have hat := Fs.crk_at mk f.1 k hkf
      rw [List.getElem?_eq_getElem hcl] at hat
      injection hat with hat
      rw [hat, Nat.zero_add] at d0 d1
      obtain ⟨cur, hcur⟩ := own_block HO.out
      have HCU := hid hcur
      have HSC := hid (Fs.crk_succ mk f.1 k hkf)
      have HST := hid (fun a b => Fs.nds_set2 (Fs.crk mk f.1 k) k hcl a b)
      have HLK := hid (fun wx (hx : wx.cell? ⟨w.heap.size + 1, 0, none⟩ = some (.int .u64 (mk : Nat))) => landed_any mk k (w.heap.size + 1) wx HMK.out (by omega) hx)
      have hkI : (k : Int) < (n : Int) := by omega
      have gm := F2r.out.lt
      have HNG := hid (show g ≠ gb from fun e => HGN.out (by rw [e]; rfl))
      have HBB := hid (show B ≤ gb from HS1.out _ rfl)
      generalize f.1[k] = x at *
      obtain ⟨s, t⟩ := x
      simp only at d0 d1 HSC
      have HD0 := hid d0; have HD1 := hid d1
      clear c4 l4 hcur hat hcl hkf hk24
      cases hlk : Fs.lnd mk k
      · rw [hlk] at HLK HSC
        clear hlk
        have XA0 := hid (Ext.new (ext_refl wr) (.cells #[.string s, .string t] 49))
        have XA := hid (Ext.new (ext_refl wr) (.cells #[.string t, .string t] 49))
        have gm' : w.heap.size + 1 ≠ wr.heap.size := by omega
        have HS' := hid (show Fs.crk mk f.1 (k + 1) = (Fs.crk mk f.1 k).set k (t, t) by rw [HSC.out]; rfl)
        have q0 := (Blk.new wr 49 #[.string t, .string t]).cell 0
        have e0 := ext_cell XA.out HD0.out
        have e1 := ext_cell XA.out HD1.out
        have kz := ext_cell XA.out k0
        have fz0 := (HCU.out.keep XA.out).frozen (k * 2)
        have fz1 := (HCU.out.keep XA.out).frozen (k * 2 + 1)
        go_wp2_with fail
        refine (HLK.out _ (ext_cell XA0.out m0)).mono ?_
        rintro e w6 ⟨rfl, rfl⟩
        clear gm'
        go_upto_region 14 with fail
        have q0r := cell_regrown q0
        have kzr := cell_regrown kz
        refine wp_region_late [12] [] [(0, true), (1, true), (2, true), (3, true), (4, true), (5, true), (6, true), (7, true), (8, true), (9, true), (10, true), (11, true), (12, false)] (by kernel_rfl) (by kernel_rfl) (fun _ _ _ _ _ h => h) (by kernel_rfl) (by rfl) ?_
        simp only [List.filterMap_cons, List.filterMap_nil, List.getElem?_toArray, List.getElem?_cons_zero, List.getElem?_cons_succ, Option.map_some, List.contains_cons, List.contains_nil, Nat.reduceBEq, Bool.or_false]
        repeat ((first | refine wpL_val (by rfl) ?_ | refine wpL_pure (by rfl) ?_); intro K hK; go_big_quiet_op; go_big_quiet_on)
        refine wpL_late (by rfl) ?_
        intro K hK
        go_simp
        refine hK _ _ ?_
        clear K hK q0r kzr
        refine wpL_nil ?_
        go_wp2
        go_roundw
        case rel => exact ⟨k + 1, by omega, by go_num, by rw [HS'.out, ← HST.out t t]; exact hid (own_ext (own_set (own_set (own_ext HO.out XA.out) rfl (k * 2) (.string t)) rfl (k * 2 + 1) (.string t)) (ext_refl _).draw), hid (grown_then (But.put (But.put (grown_then HX.out (grown_ext XA.out)) ⟨gb, k * 2, none⟩ (.inl rfl) (.string t)) ⟨gb, k * 2 + 1, none⟩ (.inl rfl) (.string t)) (grown_ext (ext_refl _).draw))⟩
        case measure => simp [intOf] <;> omega
      · rw [hlk] at HLK HSC
        clear hlk
        have XA0 := hid (Ext.new (ext_refl wr) (.cells #[.string s, .string t] 49))
        have XA := hid (Ext.new (ext_refl wr) (.cells #[.string s, .string t] 49))
        have gm' : w.heap.size + 1 ≠ wr.heap.size := by omega
        have HS' := hid (show Fs.crk mk f.1 (k + 1) = (Fs.crk mk f.1 k).set k (s, s) by rw [HSC.out]; rfl)
        have q0 := (Blk.new wr 49 #[.string s, .string t]).cell 0
        have e0 := ext_cell XA.out HD0.out
        have e1 := ext_cell XA.out HD1.out
        have kz := ext_cell XA.out k0
        have fz0 := (HCU.out.keep XA.out).frozen (k * 2)
        have fz1 := (HCU.out.keep XA.out).frozen (k * 2 + 1)
        go_wp2_with fail
        refine (HLK.out _ (ext_cell XA0.out m0)).mono ?_
        rintro e w6 ⟨rfl, rfl⟩
        clear gm'
        go_upto_region 14 with fail
        have q0r := cell_regrown q0
        have kzr := cell_regrown kz
        refine wp_region_late [12] [] [(0, true), (1, true), (2, true), (3, true), (4, true), (5, true), (6, true), (7, true), (8, true), (9, true), (10, true), (11, true), (12, false)] (by kernel_rfl) (by kernel_rfl) (fun _ _ _ _ _ h => h) (by kernel_rfl) (by rfl) ?_
        simp only [List.filterMap_cons, List.filterMap_nil, List.getElem?_toArray, List.getElem?_cons_zero, List.getElem?_cons_succ, Option.map_some, List.contains_cons, List.contains_nil, Nat.reduceBEq, Bool.or_false]
        repeat ((first | refine wpL_val (by rfl) ?_ | refine wpL_pure (by rfl) ?_); intro K hK; go_big_quiet_op; go_big_quiet_on)
        refine wpL_late (by rfl) ?_
        intro K hK
        go_simp
        refine hK _ _ ?_
        clear K hK q0r kzr
        refine wpL_nil ?_
        go_wp2
        go_roundw
        case rel => exact ⟨k + 1, by omega, by go_num, by rw [HS'.out, ← HST.out s s]; exact hid (own_ext (own_set (own_set (own_ext HO.out XA.out) rfl (k * 2) (.string s)) rfl (k * 2 + 1) (.string s)) (ext_refl _).draw), hid (grown_then (But.put (But.put (grown_then HX.out (grown_ext XA.out)) ⟨gb, k * 2, none⟩ (.inl rfl) (.string s)) ⟨gb, k * 2 + 1, none⟩ (.inl rfl) (.string s)) (grown_ext (ext_refl _).draw))⟩
        case measure => simp [intOf] <;> omega
    · obtain rfl : n = k := by omega
      have hall : Fs.crk mk f.1 n = Fs.crn mk 0 f.1 := by rw [HN.out, Fs.crk_all]
      rw [hall] at HO
      have F3r := hid (Blk.grown F3.out HX.out (fun e => by have := HS1.out _ e; have := HBW.out; omega))
      have O2r := hid (R2.out.kept HX.out HN2.out)
      have O3r := hid (R3.out.kept HX.out HN3.out)
      have XW : Hid (Ext w wr) := hid (Below.grown XZ.out HX.out (XZ.out.size) (fun j hj => by have := HS1.out _ hj; have := HBW.out; omega))
      have HBR := hid (show B ≤ wr.heap.size from Nat.le_trans HB3.out HX.out.size)
      have HCL := hid (show (Fs.crn mk 0 f.1).length = n by rw [Fs.crn_len]; exact HN.out.symm)
      have HLL := hid (show f.2.2.length = q from HQ.out.symm)
      have DK : Hid (Dsk wr B g (Fs.crn mk 0 f.1, f.2.2, f.2.2)) := hid ⟨A1, c1, E2, e2, E3, e3, by simp only; rw [HCL.out, HLL.out]; exact BGr.out, HBG.out, by simp only; rw [HCL.out]; exact HO.out, by simp only; rw [HLL.out]; exact O2r.out, by simp only; rw [HLL.out]; exact O3r.out, HDJ2.out⟩
      have HGL := hid (show Fs.Good (Fs.crn mk 0 f.1).length f.2.2 by rw [Fs.crn_len]; exact HOK.out.syn)
      have HSP := hid (swept_V (Fs.crn mk 0 f.1, f.2.2, f.2.2) B g wr DK.out HBR.out (by simp only; rw [HCL.out]; exact HLn.out) HGL.out HGL.out)
      have HRR := hid (show Fs.crs f mk = (Fs.swp (Fs.crn mk 0 f.1, f.2.2, f.2.2), 0) by rw [HR.out, HCD.out])
      clear hall hlt hk
      go_wp2_with fail
      refine HSP.out.mono ?_
      rintro e w8 ⟨v8, rfl, hf8, hx8⟩
      have FO := hid hf8
      have X8 : Hid (Ext w w8) := hid (Below.trans XW.out (Below.mono hx8 (by have := HBW.out; omega)))
      have F8 := hid (F3r.out.below hx8 (by have := HBW.out; omega))
      obtain ⟨S1, b1, S2, b2, S3, b3, rfl, _, _, _⟩ := hf8
      obtain ⟨FW, hFW⟩ : ∃ F, F = Fs.swp (Fs.crn mk 0 f.1, f.2.2, f.2.2) := ⟨_, rfl⟩
      rw [← hFW] at FO HRR ⊢
      obtain ⟨n8, hn8⟩ : ∃ n, n = FW.1.length := ⟨_, rfl⟩
      obtain ⟨m8, hm8⟩ : ∃ n, n = FW.2.1.length := ⟨_, rfl⟩
      obtain ⟨q8, hq8⟩ : ∃ n, n = FW.2.2.length := ⟨_, rfl⟩
      rw [← hn8, ← hm8, ← hq8] at FO
      rw [← hn8, ← hm8, ← hq8]
      have t0 := F8.out.cell 0
      have t1 := F8.out.cell 1
      have t2 := F8.out.cell 2
      have x0 := F8.out.frozen 0
      have x1 := F8.out.frozen 1
      have x2 := F8.out.frozen 2
      clear hx8 hFW hn8 hm8 hq8
      go_wp2
      have hne : w.heap.size + 1 + 1 < B := by have := HBW.out; omega
      have HBF := hid ((((F8.out.set 0 (.slice S1 n8 b1)).set 1 (.slice S2 m8 b2)).set 2 (.slice S3 q8 b3)).cast (cs' := #[.slice S1 n8 b1, .slice S2 m8 b2, .slice S3 q8 b3]) (by simp))
      have XF := hid (Ext.put (Ext.put (Ext.put X8.out (p := ⟨w.heap.size + 1 + 1, 0, none⟩) (by simp only; omega) (.slice S1 n8 b1)) (p := ⟨w.heap.size + 1 + 1, 1, none⟩) (by simp only; omega) (.slice S2 m8 b2)) (p := ⟨w.heap.size + 1 + 1, 2, none⟩) (by simp only; omega) (.slice S3 q8 b3))
      refine bodyPost_ret (results_blk2 rfl _ _ (w.heap.size + 1 + 1) 25 _ _ rfl HBF.out Tryd.underlying25 rfl (by kernel_rfl)) rfl ?_
      exact ⟨_, by rw [HRR.out]; rfl, by rw [HRR.out]; exact (((FO.out.put (p := ⟨w.heap.size + 1 + 1, 0, none⟩) hne _).put (p := ⟨w.heap.size + 1 + 1, 1, none⟩) hne _).put (p := ⟨w.heap.size + 1 + 1, 2, none⟩) hne _).low (by have := HBW.out; omega), XF.out⟩
theorem crash_any (f : Fs.FSy) (mk : Nat) (v : Value) (w : World) (hv : FsV w v f) (hb : Fs.FsB f) (hmk : mk < 18446744073709551616) :
    Calls Tryd.prog 14 #[v, .int .u64 mk] w fun e w' => ∃ v', e = .returned (.tuple #[v', .int .i64 ((Fs.crs f mk).2 : Nat)]) ∧ FsO w' w.heap.size v' (Fs.crs f mk).1 ∧ Ext w w' := by
  by_cases h : Fs.fsck f = 0
  · cases hl : Fs.lnd mk 63
    · exact crash_no f mk v w hv hb hmk h hl
    · exact crash_yes f mk v w hv hb hmk h hl
  · exact crash_bad f mk v w hv hb hmk h
end Go.Proofs.YtolhifnlahllnaaDoor
end
section
namespace Hy.Fs
open Go
theorem lnd_top {m : Nat} (hm : m < 18446744073709551616) : lnd m 63 = decide (9223372036854775808 ≤ m) := by
  unfold lnd
  congr 1
  apply propext
  constructor <;> intro h <;> omega
theorem lnd_div {m i : Nat} : decide (((m : Int) / ((2 ^ i : Nat) : Int)).tmod 2 = 1) = lnd m i := by
  unfold lnd
  congr 1
  apply propext
  rw [← Int.natCast_ediv, Int.tmod_eq_emod_of_nonneg (Int.natCast_nonneg _)]
  omega
end Hy.Fs
namespace Go.Proofs.YtolhifnlahllnaaDoor
open Go.RowKit Hy
theorem pow2_fs (k : Nat) (w : World) (hk : k ≤ 63) : Calls Tryd.prog 48 #[.int .i64 k] w fun e w' => e = .returned (.int .u64 (2 ^ k : Nat)) ∧ w = w' := by
  go_enter Tryd.func48, Tryd.ntmps48
  go_wp2
  go_loop [3, 4] (fun a c => ∃ i : Nat, i ≤ k ∧ c = .int .i64 i ∧ a = .int .u64 (2 ^ i : Nat)) (fun _ c => k - (intOf c).toNat)
  case atStart => exact ⟨0, Nat.zero_le _, rfl, rfl⟩
  case round =>
    obtain ⟨i, hi, rfl, rfl⟩ := hrel
    by_cases hlt : i < k
    · have HS := hid (Nat.pow_succ 2 i)
      have hp : 2 ^ i ≤ 2 ^ 62 := Nat.pow_le_pow_right (by decide) (by omega)
      have hpI : ((2 ^ i : Nat) : Int) ≤ 4611686018427387904 := by omega
      clear hp
      generalize (2 : Nat) ^ i = p at *
      go_wp2
      go_round
      case rel => exact ⟨i + 1, by omega, by go_num, by rw [HS.out]; go_num⟩
      case measure => simp [intOf]; omega
    · obtain rfl : i = k := by omega
      obtain ⟨p, hp⟩ : ∃ p, p = (2 : Nat) ^ i := ⟨_, rfl⟩
      rw [← hp]
      have HP := hid hp
      clear hp
      go_wp2
      go_returns
      exact ⟨ret_int (by rw [HP.out]; simp), rfl⟩
set_option maxHeartbeats 3200000 in
set_option maxRecDepth 100000 in
theorem crashedOf_bad (f : Fs.FSy) (mk : Nat) (v : Value) (w : World) (hv : FsV w v f) (hb : Fs.FsB f) (hmk : mk < 18446744073709551616) (h : Fs.fsck f ≠ 0) :
    Calls Tryd.prog 17 #[v, .int .u64 mk] w fun e w' => ∃ v', e = .returned (.tuple #[v', .int .i64 ((Fs.crs f mk).2 : Nat)]) ∧ FsO w' w.heap.size v' (Fs.crs f mk).1 ∧ Ext w w' := by
  have HCK := hid (fun wx (hx : Ext w wx) => fsCheck_V f v wx (hv.keep hx) hb)
  obtain ⟨NA, nc, DA, dc, SA, sc, rfl, h1, h2, h3, z1, z2, z3⟩ := hv
  obtain ⟨n, hn⟩ : ∃ n, n = f.1.length := ⟨_, rfl⟩
  obtain ⟨m, hm⟩ : ∃ n, n = f.2.1.length := ⟨_, rfl⟩
  obtain ⟨q, hq⟩ : ∃ n, n = f.2.2.length := ⟨_, rfl⟩
  rw [← hn, ← hm, ← hq] at HCK ⊢
  rw [← hn] at z1
  rw [← hm] at z2
  rw [← hq] at z3
  have HN := hid hn; have HM := hid hm; have HQ := hid hq
  have HR1 := hid h1; have HR2 := hid h2; have HR3 := hid h3
  have HZ1 := hid z1; have HZ2 := hid z2; have HZ3 := hid z3
  have HMK := hid hmk
  obtain ⟨Mi, hMi⟩ : ∃ M : Int, M = (mk : Int) := ⟨_, rfl⟩
  have HMI := hid hMi
  rw [← hMi]
  have hmI : Mi < 18446744073709551616 := by omega
  have hmI0 : 0 ≤ Mi := by omega
  have HR := hid (Fs.crs_bad (m := mk) h)
  obtain ⟨E, hE⟩ : ∃ E, E = Fs.fsck f := ⟨_, rfl⟩
  rw [← hE] at h HCK HR
  have e2 : ((E : Int) != 0) = true := by simp; omega
  clear hn hm hq hb hmk hMi h1 h2 h3 z1 z2 z3 h hE
  go_enter Tryd.func17, Tryd.ntmps17
  go_upto_region 1 with fail
  refine wp_gen (fun w' => Ext w w' ∧ Blk w' w.heap.size 25 #[.slice NA n nc, .slice DA m dc, .slice SA q sc] ∧ Blk w' (w.heap.size + 1) 25 #[.slice none 0 0, .slice none 0 0, .slice none 0 0]) ⟨((ext_refl _).new _).new _, (Blk.new _ _ _).alloc _, Blk.newAt (by simp)⟩ ?_
  rintro wz ⟨B0, B1, B3⟩
  have XZ : Hid (Ext w wz) := hid B0
  have F1 := hid B1
  have F3 := hid B3
  have p0 := B1.cell 0
  have p1 := B1.cell 1
  have p2 := B1.cell 2
  clear B0 B1 B3
  go_wp2_with fail
  refine Calls.mono (HCK.out _ XZ.out) ?_
  rintro e w1 ⟨rfl, hx⟩
  replace XZ : Hid (Ext w w1) := hid (XZ.out.then hx)
  replace F1 := hid (F1.out.keep hx)
  replace F3 := hid (F3.out.keep hx)
  clear hx p0 p1 p2
  have z0 := F3.out.cell 0
  have z1 := F3.out.cell 1
  have z2 := F3.out.cell 2
  have y0 := F3.out.frozen 0
  have y1 := F3.out.frozen 1
  have y2 := F3.out.frozen 2
  go_wp2
  have HBF := hid ((((F3.out.set 0 (.slice none 0 0)).set 1 (.slice none 0 0)).set 2 (.slice none 0 0)).cast (cs' := #[.slice none 0 0, .slice none 0 0, .slice none 0 0]) (by simp))
  have XF := hid (Ext.put (Ext.put (Ext.put XZ.out (p := ⟨w.heap.size + 1, 0, none⟩) (by simp only; omega) (.slice none 0 0)) (p := ⟨w.heap.size + 1, 1, none⟩) (by simp only; omega) (.slice none 0 0)) (p := ⟨w.heap.size + 1, 2, none⟩) (by simp only; omega) (.slice none 0 0))
  refine bodyPost_ret (results_blk2 rfl _ _ (w.heap.size + 1) 25 _ _ rfl HBF.out Tryd.underlying25 rfl (by kernel_rfl)) rfl ?_
  exact ⟨_, by rw [HR.out]; rfl, by rw [HR.out]; exact fs0_O _ _, XF.out⟩
set_option maxHeartbeats 3200000 in
set_option maxRecDepth 100000 in
theorem crashedOf_yes (f : Fs.FSy) (mk : Nat) (v : Value) (w : World) (hv : FsV w v f) (hb : Fs.FsB f) (hmk : mk < 18446744073709551616) (h : Fs.fsck f = 0) (hl : Fs.lnd mk 63 = true) :
    Calls Tryd.prog 17 #[v, .int .u64 mk] w fun e w' => ∃ v', e = .returned (.tuple #[v', .int .i64 ((Fs.crs f mk).2 : Nat)]) ∧ FsO w' w.heap.size v' (Fs.crs f mk).1 ∧ Ext w w' := by
  have HCK := hid (fun wx (hx : Ext w wx) => fsCheck_V f v wx (hv.keep hx) hb)
  obtain ⟨NA, nc, DA, dc, SA, sc, rfl, h1, h2, h3, z1, z2, z3⟩ := hv
  obtain ⟨n, hn⟩ : ∃ n, n = f.1.length := ⟨_, rfl⟩
  obtain ⟨m, hm⟩ : ∃ n, n = f.2.1.length := ⟨_, rfl⟩
  obtain ⟨q, hq⟩ : ∃ n, n = f.2.2.length := ⟨_, rfl⟩
  rw [← hn, ← hm, ← hq] at HCK ⊢
  rw [← hn] at z1
  rw [← hm] at z2
  rw [← hq] at z3
  have HN := hid hn; have HM := hid hm; have HQ := hid hq
  have HR1 := hid h1; have HR2 := hid h2; have HR3 := hid h3
  have HZ1 := hid z1; have HZ2 := hid z2; have HZ3 := hid z3
  have HMK := hid hmk
  obtain ⟨Mi, hMi⟩ : ∃ M : Int, M = (mk : Int) := ⟨_, rfl⟩
  have HMI := hid hMi
  rw [← hMi]
  have hmI : Mi < 18446744073709551616 := by omega
  have hmI0 : 0 ≤ Mi := by omega
  have HOK := hid (Fs.ok_iff.1 h)
  have HR := hid (Fs.crs_ok (m := mk) h)
  rw [h] at HCK
  have hmn := Fs.good_len HOK.out.dir
  have hqn := Fs.good_len HOK.out.syn
  have h24 := HOK.out.few
  have HLn := hid (show n ≤ 24 by omega)
  have hnI : (n : Int) ≤ 24 := by omega
  have htop := Fs.lnd_top hmk
  rw [hl] at htop
  have HCD := hid (show Fs.crd f mk = f.2.1 by unfold Fs.crd; rw [if_pos hl])
  have hge : (9223372036854775808 : Int) ≤ Mi := by have := of_decide_eq_true htop.symm; omega
  clear hn hm hq hb hmk hMi h1 h2 h3 z1 z2 z3 h hmn hqn h24 htop hl
  go_enter Tryd.func17, Tryd.ntmps17
  go_upto_region 1 with fail
  refine wp_gen (fun w' => Ext w w' ∧ Blk w' w.heap.size 25 #[.slice NA n nc, .slice DA m dc, .slice SA q sc] ∧ Blk w' (w.heap.size + 1) 25 #[.slice none 0 0, .slice none 0 0, .slice none 0 0]) ⟨((ext_refl _).new _).new _, (Blk.new _ _ _).alloc _, Blk.newAt (by simp)⟩ ?_
  rintro wz ⟨B0, B1, B3⟩
  have XZ : Hid (Ext w wz) := hid B0
  have F1 := hid B1
  have F3 := hid B3
  have p0 := B1.cell 0
  have p1 := B1.cell 1
  have p2 := B1.cell 2
  clear B0 B1 B3
  go_wp2_with fail
  refine Calls.mono (HCK.out _ XZ.out) ?_
  rintro e w1 ⟨rfl, hx⟩
  replace XZ : Hid (Ext w w1) := hid (XZ.out.then hx)
  replace F1 := hid (F1.out.keep hx)
  replace F3 := hid (F3.out.keep hx)
  clear hx p0 p1 p2
  have p0 := F1.out.cell 0
  have p1 := F1.out.cell 1
  have p2 := F1.out.cell 2
  have gw := F1.out.lt
  have BN := hid (Blk.new w1 25 #[.slice none 0 0, .slice DA m dc, .slice DA m dc])
  have XN := hid (Ext.new (ext_refl w1) (.cells #[.slice none 0 0, .slice DA m dc, .slice DA m dc] 25))
  have HW1 := hid (show w.heap.size + 2 ≤ w1.heap.size by have := F3.out.lt; omega)
  obtain ⟨g, hg⟩ : ∃ g, g = w1.heap.size := ⟨_, rfl⟩
  go_wp2
  rw [← hg] at BN ⊢
  have HGS := hid (show w.heap.size + 2 ≤ g by rw [hg]; exact HW1.out)
  have XY : Hid (Below (w.heap.size + 2) w1 _) := hid (Below.mono XN.out HW1.out)
  clear hg XN p0 p1 p2 gw
  go_loopw [8] (fun c wr => ∃ (k : Nat) (vn : Value), k ≤ n ∧ c = .int .i64 k ∧ Hid (wr.ownsRow (w.heap.size + 2) 49 2 vn k (nds (Fs.crn mk 0 (f.1.take k)))) ∧ Hid (Blk wr g 25 #[vn, .slice DA m dc, .slice DA m dc]) ∧ Hid (Below (w.heap.size + 2) w1 wr)) (fun c _ => n - (intOf c).toNat)
  case atStart => exact ⟨0, .slice none 0 0, Nat.zero_le _, rfl, hid (World.ownsRow_nil _ _ _ _), BN, XY⟩
  case round =>
    clear BN XY
    obtain ⟨k, vn, hk, rfl, HO, BG, HX⟩ := hrel
    have X0 : Hid (Ext w wr) := hid (Below.trans XZ.out (Below.mono HX.out (by omega)))
    have BS := hid (F1.out.below HX.out (by omega))
    have BT := hid (F3.out.below HX.out (by omega))
    have HSR := hid (show w.heap.size + 2 ≤ wr.heap.size from Nat.le_trans HW1.out HX.out.size)
    have g0 := BS.out.cell 0
    obtain ⟨A9, c9, rfl, _, _, _, _⟩ := Rd.owned HO.out
    have hkI0 : (k : Int) ≤ (n : Int) := by omega
    by_cases hlt : k < n
    · have hka : k < f.1.length := by rw [← HN.out]; exact hlt
      obtain ⟨b1, o1, e1, l1, c1'⟩ := HR1.out.nodes k hka
      have d0 := ext_cell X0.out (c1' k hka).1
      have d1 := ext_cell X0.out (c1' k hka).2
      have hkI : (k : Int) < (n : Int) := by omega
      have HPW := hid (fun wx => pow2_fs k wx (by have := HLn.out; omega))
      have HLV := hid (Fs.lnd_div (m := mk) (i := k))
      rw [← HMI.out] at HLV
      have HK24 := hid (show k ≤ 24 by have := HLn.out; omega)
      have hp0 : 0 < 2 ^ k := Nat.pow_pos (by decide)
      obtain ⟨p, hp⟩ : ∃ p, p = 2 ^ k := ⟨_, rfl⟩
      rw [← hp] at HPW HLV hp0
      have hpI : (0 : Int) < (p : Int) := by omega
      have hpne : ((p : Int) == 0) = false := beq_eq_false_iff_ne.2 (by omega)
      have HSN := hid (show Fs.crn mk 0 (f.1.take (k + 1)) = Fs.crn mk 0 (f.1.take k) ++ [if Fs.lnd mk k then (f.1[k].1, f.1[k].1) else (f.1[k].2, f.1[k].2)] by
        rw [List.take_succ_eq_append_getElem hka, Fs.crn_snoc, List.length_take, Nat.zero_add, Nat.min_eq_left (by omega)])
      obtain ⟨K0, hK0⟩ : ∃ K, K = Fs.crn mk 0 (f.1.take k) := ⟨_, rfl⟩
      rw [← hK0] at HO HSN
      have he1 := hid e1
      clear c1' e1 hK0 hp hp0
      generalize f.1[k] = x at *
      clear hka
      obtain ⟨s, t⟩ := x
      simp only at d0 d1 HSN
      have e1 := he1.out
      subst e1
      have v0 := BG.out.cell 0
      have vf := BG.out.frozen 0
      have vl := BG.out.lt
      cases hlk : Fs.lnd mk k
      · rw [hlk] at HLV HSN
        have HS' := hid (show Fs.crn mk 0 (f.1.take (k + 1)) = K0 ++ [(t, t)] by rw [HSN.out]; rfl)
        have hq0 : ((Mi / (p : Int)).tmod 2 == 1) = false := beq_eq_false_iff_ne.2 (of_decide_eq_false HLV.out)
        clear hlk
        go_wp2_with (first | (go_at_call 48; refine (HPW.out _).mono ?_; rintro e w4 ⟨rfl, rfl⟩) | (at_builtin; go_loud (refine wpList_app rfl (.tmp 54) (.tmp 58) rowNo rfl _ k (nds K0) rfl (own_ext HO.out (Ext.new (ext_refl _) _)) _ 1 (nds [(t, t)]) rfl (Src.rd Tryd.underlying22 _ 1 1 _ rfl (rd_lit rfl rfl) (nds_one _) (fun h => by cases h)) (by have := HK24.out; simp only [maxLen]; omega) (by have := HK24.out; omega) (Nat.le_trans HSR.out (size_new _ _)) ?_; intro v' w9 hown9 hgrow hat hbel; have XA := hid (Ext.new (ext_refl wr) (.cells #[.string t, .string t] 49)); have HO9 := hid hown9; have B9 := hid (Blk.grown (BG.out.keep XA.out) hgrow (own_nblk HO.out BG.out (by decide))); have XB9 := hid (Below.trans (Below.mono XA.out HSR.out) hbel); obtain ⟨A', c', rfl, hrd9⟩ := Rd.owned hown9; have u0 := B9.out.cell 0; have uf := B9.out.frozen 0; clear hown9 hgrow hat hbel hrd9 v0 vf vl)) | fail)
        go_roundw
        case rel => exact ⟨k + 1, .slice A' (k + 1) c', by omega, by go_num, by rw [HS'.out, nds_app]; exact hid (own_put HO9.out (p := ⟨g, 0, none⟩) (own_nblk HO9.out B9.out (by decide)) _), hid ((B9.out.set 0 (.slice A' (k + 1) c')).cast (by simp)), hid (Below.setCell (Below.trans HX.out XB9.out) HGS.out (p := ⟨g, 0, none⟩) _)⟩
        case measure => simp [intOf] <;> omega
      · rw [hlk] at HLV HSN
        have HS' := hid (show Fs.crn mk 0 (f.1.take (k + 1)) = K0 ++ [(s, s)] by rw [HSN.out]; rfl)
        have hq1 : ((Mi / (p : Int)).tmod 2 == 1) = true := beq_iff_eq.2 (of_decide_eq_true HLV.out)
        clear hlk
        go_wp2_with (first | (go_at_call 48; refine (HPW.out _).mono ?_; rintro e w4 ⟨rfl, rfl⟩) | (at_builtin; go_loud (refine wpList_app rfl (.tmp 54) (.tmp 58) rowNo rfl _ k (nds K0) rfl (own_ext HO.out (Ext.new (ext_refl _) _)) _ 1 (nds [(s, s)]) rfl (Src.rd Tryd.underlying22 _ 1 1 _ rfl (rd_lit rfl rfl) (nds_one _) (fun h => by cases h)) (by have := HK24.out; simp only [maxLen]; omega) (by have := HK24.out; omega) (Nat.le_trans HSR.out (size_new _ _)) ?_; intro v' w9 hown9 hgrow hat hbel; have XA := hid (Ext.new (ext_refl wr) (.cells #[.string s, .string s] 49)); have HO9 := hid hown9; have B9 := hid (Blk.grown (BG.out.keep XA.out) hgrow (own_nblk HO.out BG.out (by decide))); have XB9 := hid (Below.trans (Below.mono XA.out HSR.out) hbel); obtain ⟨A', c', rfl, hrd9⟩ := Rd.owned hown9; have u0 := B9.out.cell 0; have uf := B9.out.frozen 0; clear hown9 hgrow hat hbel hrd9 v0 vf vl)) | fail)
        go_roundw
        case rel => exact ⟨k + 1, .slice A' (k + 1) c', by omega, by go_num, by rw [HS'.out, nds_app]; exact hid (own_put HO9.out (p := ⟨g, 0, none⟩) (own_nblk HO9.out B9.out (by decide)) _), hid ((B9.out.set 0 (.slice A' (k + 1) c')).cast (by simp)), hid (Below.setCell (Below.trans HX.out XB9.out) HGS.out (p := ⟨g, 0, none⟩) _)⟩
        case measure => simp [intOf] <;> omega
    · obtain rfl : n = k := by omega
      have hall : f.1.take n = f.1 := List.take_of_length_le (by rw [HN.out]; exact Nat.le_refl _)
      rw [hall] at HO
      have v0 := BG.out.cell 0
      have v1 := BG.out.cell 1
      have v2 := BG.out.cell 2
      have HCL := hid (show (Fs.crn mk 0 f.1).length = n by rw [Fs.crn_len]; exact HN.out.symm)
      have FV := hid (FsV.mk' (w := wr) (f := (Fs.crn mk 0 f.1, f.2.1, f.2.1)) HCL.out HM.out.symm HM.out.symm (own_rd HO.out).1 (HR2.out.keep X0.out) (HR2.out.keep X0.out) (own_rd HO.out).2.1 HZ2.out HZ2.out (c1 := c9) (c2 := dc) (c3 := dc))
      have HGL := hid (show Fs.Good (Fs.crn mk 0 f.1).length f.2.1 by rw [Fs.crn_len]; exact HOK.out.dir)
      have HSP := hid (sweptG (Fs.crn mk 0 f.1, f.2.1, f.2.1) _ wr FV.out (by simp only; rw [HCL.out]; exact HLn.out) HGL.out HGL.out)
      have HRR := hid (show Fs.crs f mk = (Fs.swp (Fs.crn mk 0 f.1, f.2.1, f.2.1), 0) by rw [HR.out, HCD.out])
      clear hall hlt hk
      go_wp2_with fail
      refine HSP.out.mono ?_
      rintro e w8 ⟨v8, rfl, hf8, hx8⟩
      have FO := hid (hf8.low HSR.out)
      have X8 : Hid (Ext w w8) := hid (X0.out.then hx8)
      have F8 := hid (BT.out.keep hx8)
      obtain ⟨S1, b1, S2, b2, S3, b3, rfl, _, _, _⟩ := hf8
      obtain ⟨FW, hFW⟩ : ∃ F, F = Fs.swp (Fs.crn mk 0 f.1, f.2.1, f.2.1) := ⟨_, rfl⟩
      rw [← hFW] at FO HRR ⊢
      obtain ⟨n8, hn8⟩ : ∃ n, n = FW.1.length := ⟨_, rfl⟩
      obtain ⟨m8, hm8⟩ : ∃ n, n = FW.2.1.length := ⟨_, rfl⟩
      obtain ⟨q8, hq8⟩ : ∃ n, n = FW.2.2.length := ⟨_, rfl⟩
      rw [← hn8, ← hm8, ← hq8] at FO
      rw [← hn8, ← hm8, ← hq8]
      have t0 := F8.out.cell 0
      have t1 := F8.out.cell 1
      have t2 := F8.out.cell 2
      have x0 := F8.out.frozen 0
      have x1 := F8.out.frozen 1
      have x2 := F8.out.frozen 2
      clear hx8 hFW hn8 hm8 hq8
      go_wp2
      have hne : w.heap.size + 1 < w.heap.size + 2 := by omega
      have HBF := hid ((((F8.out.set 0 (.slice S1 n8 b1)).set 1 (.slice S2 m8 b2)).set 2 (.slice S3 q8 b3)).cast (cs' := #[.slice S1 n8 b1, .slice S2 m8 b2, .slice S3 q8 b3]) (by simp))
      have XF := hid (Ext.put (Ext.put (Ext.put X8.out (p := ⟨w.heap.size + 1, 0, none⟩) (by simp only; omega) (.slice S1 n8 b1)) (p := ⟨w.heap.size + 1, 1, none⟩) (by simp only; omega) (.slice S2 m8 b2)) (p := ⟨w.heap.size + 1, 2, none⟩) (by simp only; omega) (.slice S3 q8 b3))
      refine bodyPost_ret (results_blk2 rfl _ _ (w.heap.size + 1) 25 _ _ rfl HBF.out Tryd.underlying25 rfl (by kernel_rfl)) rfl ?_
      exact ⟨_, by rw [HRR.out]; rfl, by rw [HRR.out]; exact (((FO.out.put (p := ⟨w.heap.size + 1, 0, none⟩) hne _).put (p := ⟨w.heap.size + 1, 1, none⟩) hne _).put (p := ⟨w.heap.size + 1, 2, none⟩) hne _).low (by omega), XF.out⟩
set_option maxHeartbeats 3200000 in
set_option maxRecDepth 100000 in
theorem crashedOf_no (f : Fs.FSy) (mk : Nat) (v : Value) (w : World) (hv : FsV w v f) (hb : Fs.FsB f) (hmk : mk < 18446744073709551616) (h : Fs.fsck f = 0) (hl : Fs.lnd mk 63 = false) :
    Calls Tryd.prog 17 #[v, .int .u64 mk] w fun e w' => ∃ v', e = .returned (.tuple #[v', .int .i64 ((Fs.crs f mk).2 : Nat)]) ∧ FsO w' w.heap.size v' (Fs.crs f mk).1 ∧ Ext w w' := by
  have HCK := hid (fun wx (hx : Ext w wx) => fsCheck_V f v wx (hv.keep hx) hb)
  obtain ⟨NA, nc, DA, dc, SA, sc, rfl, h1, h2, h3, z1, z2, z3⟩ := hv
  obtain ⟨n, hn⟩ : ∃ n, n = f.1.length := ⟨_, rfl⟩
  obtain ⟨m, hm⟩ : ∃ n, n = f.2.1.length := ⟨_, rfl⟩
  obtain ⟨q, hq⟩ : ∃ n, n = f.2.2.length := ⟨_, rfl⟩
  rw [← hn, ← hm, ← hq] at HCK ⊢
  rw [← hn] at z1
  rw [← hm] at z2
  rw [← hq] at z3
  have HN := hid hn; have HM := hid hm; have HQ := hid hq
  have HR1 := hid h1; have HR2 := hid h2; have HR3 := hid h3
  have HZ1 := hid z1; have HZ2 := hid z2; have HZ3 := hid z3
  have HMK := hid hmk
  obtain ⟨Mi, hMi⟩ : ∃ M : Int, M = (mk : Int) := ⟨_, rfl⟩
  have HMI := hid hMi
  rw [← hMi]
  have hmI : Mi < 18446744073709551616 := by omega
  have hmI0 : 0 ≤ Mi := by omega
  have HOK := hid (Fs.ok_iff.1 h)
  have HR := hid (Fs.crs_ok (m := mk) h)
  rw [h] at HCK
  have hmn := Fs.good_len HOK.out.dir
  have hqn := Fs.good_len HOK.out.syn
  have h24 := HOK.out.few
  have HLn := hid (show n ≤ 24 by omega)
  have hnI : (n : Int) ≤ 24 := by omega
  have htop := Fs.lnd_top hmk
  rw [hl] at htop
  have HCD := hid (show Fs.crd f mk = f.2.2 by unfold Fs.crd; rw [hl]; rfl)
  have hge : Mi < (9223372036854775808 : Int) := by have := of_decide_eq_false htop.symm; omega
  clear hn hm hq hb hmk hMi h1 h2 h3 z1 z2 z3 h hmn hqn h24 htop hl
  go_enter Tryd.func17, Tryd.ntmps17
  go_upto_region 1 with fail
  refine wp_gen (fun w' => Ext w w' ∧ Blk w' w.heap.size 25 #[.slice NA n nc, .slice DA m dc, .slice SA q sc] ∧ Blk w' (w.heap.size + 1) 25 #[.slice none 0 0, .slice none 0 0, .slice none 0 0]) ⟨((ext_refl _).new _).new _, (Blk.new _ _ _).alloc _, Blk.newAt (by simp)⟩ ?_
  rintro wz ⟨B0, B1, B3⟩
  have XZ : Hid (Ext w wz) := hid B0
  have F1 := hid B1
  have F3 := hid B3
  have p0 := B1.cell 0
  have p1 := B1.cell 1
  have p2 := B1.cell 2
  clear B0 B1 B3
  go_wp2_with fail
  refine Calls.mono (HCK.out _ XZ.out) ?_
  rintro e w1 ⟨rfl, hx⟩
  replace XZ : Hid (Ext w w1) := hid (XZ.out.then hx)
  replace F1 := hid (F1.out.keep hx)
  replace F3 := hid (F3.out.keep hx)
  clear hx p0 p1 p2
  have p0 := F1.out.cell 0
  have p1 := F1.out.cell 1
  have p2 := F1.out.cell 2
  have gw := F1.out.lt
  have BN := hid (Blk.new w1 25 #[.slice none 0 0, .slice SA q sc, .slice SA q sc])
  have XN := hid (Ext.new (ext_refl w1) (.cells #[.slice none 0 0, .slice SA q sc, .slice SA q sc] 25))
  have HW1 := hid (show w.heap.size + 2 ≤ w1.heap.size by have := F3.out.lt; omega)
  obtain ⟨g, hg⟩ : ∃ g, g = w1.heap.size := ⟨_, rfl⟩
  go_wp2
  rw [← hg] at BN ⊢
  have HGS := hid (show w.heap.size + 2 ≤ g by rw [hg]; exact HW1.out)
  have XY : Hid (Below (w.heap.size + 2) w1 _) := hid (Below.mono XN.out HW1.out)
  clear hg XN p0 p1 p2 gw
  go_loopw [8] (fun c wr => ∃ (k : Nat) (vn : Value), k ≤ n ∧ c = .int .i64 k ∧ Hid (wr.ownsRow (w.heap.size + 2) 49 2 vn k (nds (Fs.crn mk 0 (f.1.take k)))) ∧ Hid (Blk wr g 25 #[vn, .slice SA q sc, .slice SA q sc]) ∧ Hid (Below (w.heap.size + 2) w1 wr)) (fun c _ => n - (intOf c).toNat)
  case atStart => exact ⟨0, .slice none 0 0, Nat.zero_le _, rfl, hid (World.ownsRow_nil _ _ _ _), BN, XY⟩
  case round =>
    clear BN XY
    obtain ⟨k, vn, hk, rfl, HO, BG, HX⟩ := hrel
    have X0 : Hid (Ext w wr) := hid (Below.trans XZ.out (Below.mono HX.out (by omega)))
    have BS := hid (F1.out.below HX.out (by omega))
    have BT := hid (F3.out.below HX.out (by omega))
    have HSR := hid (show w.heap.size + 2 ≤ wr.heap.size from Nat.le_trans HW1.out HX.out.size)
    have g0 := BS.out.cell 0
    obtain ⟨A9, c9, rfl, _, _, _, _⟩ := Rd.owned HO.out
    have hkI0 : (k : Int) ≤ (n : Int) := by omega
    by_cases hlt : k < n
    · have hka : k < f.1.length := by rw [← HN.out]; exact hlt
      obtain ⟨b1, o1, e1, l1, c1'⟩ := HR1.out.nodes k hka
      have d0 := ext_cell X0.out (c1' k hka).1
      have d1 := ext_cell X0.out (c1' k hka).2
      have hkI : (k : Int) < (n : Int) := by omega
      have HPW := hid (fun wx => pow2_fs k wx (by have := HLn.out; omega))
      have HLV := hid (Fs.lnd_div (m := mk) (i := k))
      rw [← HMI.out] at HLV
      have HK24 := hid (show k ≤ 24 by have := HLn.out; omega)
      have hp0 : 0 < 2 ^ k := Nat.pow_pos (by decide)
      obtain ⟨p, hp⟩ : ∃ p, p = 2 ^ k := ⟨_, rfl⟩
      rw [← hp] at HPW HLV hp0
      have hpI : (0 : Int) < (p : Int) := by omega
      have hpne : ((p : Int) == 0) = false := beq_eq_false_iff_ne.2 (by omega)
      have HSN := hid (show Fs.crn mk 0 (f.1.take (k + 1)) = Fs.crn mk 0 (f.1.take k) ++ [if Fs.lnd mk k then (f.1[k].1, f.1[k].1) else (f.1[k].2, f.1[k].2)] by
        rw [List.take_succ_eq_append_getElem hka, Fs.crn_snoc, List.length_take, Nat.zero_add, Nat.min_eq_left (by omega)])
      obtain ⟨K0, hK0⟩ : ∃ K, K = Fs.crn mk 0 (f.1.take k) := ⟨_, rfl⟩
      rw [← hK0] at HO HSN
      have he1 := hid e1
      clear c1' e1 hK0 hp hp0
      generalize f.1[k] = x at *
      clear hka
      obtain ⟨s, t⟩ := x
      simp only at d0 d1 HSN
      have e1 := he1.out
      subst e1
      have v0 := BG.out.cell 0
      have vf := BG.out.frozen 0
      have vl := BG.out.lt
      cases hlk : Fs.lnd mk k
      · rw [hlk] at HLV HSN
        have HS' := hid (show Fs.crn mk 0 (f.1.take (k + 1)) = K0 ++ [(t, t)] by rw [HSN.out]; rfl)
        have hq0 : ((Mi / (p : Int)).tmod 2 == 1) = false := beq_eq_false_iff_ne.2 (of_decide_eq_false HLV.out)
        clear hlk
        go_wp2_with (first | (go_at_call 48; refine (HPW.out _).mono ?_; rintro e w4 ⟨rfl, rfl⟩) | (at_builtin; go_loud (refine wpList_app rfl (.tmp 54) (.tmp 58) rowNo rfl _ k (nds K0) rfl (own_ext HO.out (Ext.new (ext_refl _) _)) _ 1 (nds [(t, t)]) rfl (Src.rd Tryd.underlying22 _ 1 1 _ rfl (rd_lit rfl rfl) (nds_one _) (fun h => by cases h)) (by have := HK24.out; simp only [maxLen]; omega) (by have := HK24.out; omega) (Nat.le_trans HSR.out (size_new _ _)) ?_; intro v' w9 hown9 hgrow hat hbel; have XA := hid (Ext.new (ext_refl wr) (.cells #[.string t, .string t] 49)); have HO9 := hid hown9; have B9 := hid (Blk.grown (BG.out.keep XA.out) hgrow (own_nblk HO.out BG.out (by decide))); have XB9 := hid (Below.trans (Below.mono XA.out HSR.out) hbel); obtain ⟨A', c', rfl, hrd9⟩ := Rd.owned hown9; have u0 := B9.out.cell 0; have uf := B9.out.frozen 0; clear hown9 hgrow hat hbel hrd9 v0 vf vl)) | fail)
        go_roundw
        case rel => exact ⟨k + 1, .slice A' (k + 1) c', by omega, by go_num, by rw [HS'.out, nds_app]; exact hid (own_put HO9.out (p := ⟨g, 0, none⟩) (own_nblk HO9.out B9.out (by decide)) _), hid ((B9.out.set 0 (.slice A' (k + 1) c')).cast (by simp)), hid (Below.setCell (Below.trans HX.out XB9.out) HGS.out (p := ⟨g, 0, none⟩) _)⟩
        case measure => simp [intOf] <;> omega
      · rw [hlk] at HLV HSN
        have HS' := hid (show Fs.crn mk 0 (f.1.take (k + 1)) = K0 ++ [(s, s)] by rw [HSN.out]; rfl)
        have hq1 : ((Mi / (p : Int)).tmod 2 == 1) = true := beq_iff_eq.2 (of_decide_eq_true HLV.out)
        clear hlk
        go_wp2_with (first | (go_at_call 48; refine (HPW.out _).mono ?_; rintro e w4 ⟨rfl, rfl⟩) | (at_builtin; go_loud (refine wpList_app rfl (.tmp 54) (.tmp 58) rowNo rfl _ k (nds K0) rfl (own_ext HO.out (Ext.new (ext_refl _) _)) _ 1 (nds [(s, s)]) rfl (Src.rd Tryd.underlying22 _ 1 1 _ rfl (rd_lit rfl rfl) (nds_one _) (fun h => by cases h)) (by have := HK24.out; simp only [maxLen]; omega) (by have := HK24.out; omega) (Nat.le_trans HSR.out (size_new _ _)) ?_; intro v' w9 hown9 hgrow hat hbel; have XA := hid (Ext.new (ext_refl wr) (.cells #[.string s, .string s] 49)); have HO9 := hid hown9; have B9 := hid (Blk.grown (BG.out.keep XA.out) hgrow (own_nblk HO.out BG.out (by decide))); have XB9 := hid (Below.trans (Below.mono XA.out HSR.out) hbel); obtain ⟨A', c', rfl, hrd9⟩ := Rd.owned hown9; have u0 := B9.out.cell 0; have uf := B9.out.frozen 0; clear hown9 hgrow hat hbel hrd9 v0 vf vl)) | fail)
        go_roundw
        case rel => exact ⟨k + 1, .slice A' (k + 1) c', by omega, by go_num, by rw [HS'.out, nds_app]; exact hid (own_put HO9.out (p := ⟨g, 0, none⟩) (own_nblk HO9.out B9.out (by decide)) _), hid ((B9.out.set 0 (.slice A' (k + 1) c')).cast (by simp)), hid (Below.setCell (Below.trans HX.out XB9.out) HGS.out (p := ⟨g, 0, none⟩) _)⟩
        case measure => simp [intOf] <;> omega
    · obtain rfl : n = k := by omega
      have hall : f.1.take n = f.1 := List.take_of_length_le (by rw [HN.out]; exact Nat.le_refl _)
      rw [hall] at HO
      have v0 := BG.out.cell 0
      have v1 := BG.out.cell 1
      have v2 := BG.out.cell 2
      have HCL := hid (show (Fs.crn mk 0 f.1).length = n by rw [Fs.crn_len]; exact HN.out.symm)
      have FV := hid (FsV.mk' (w := wr) (f := (Fs.crn mk 0 f.1, f.2.2, f.2.2)) HCL.out HQ.out.symm HQ.out.symm (own_rd HO.out).1 (HR3.out.keep X0.out) (HR3.out.keep X0.out) (own_rd HO.out).2.1 HZ3.out HZ3.out (c1 := c9) (c2 := sc) (c3 := sc))
      have HGL := hid (show Fs.Good (Fs.crn mk 0 f.1).length f.2.2 by rw [Fs.crn_len]; exact HOK.out.syn)
      have HSP := hid (sweptG (Fs.crn mk 0 f.1, f.2.2, f.2.2) _ wr FV.out (by simp only; rw [HCL.out]; exact HLn.out) HGL.out HGL.out)
      have HRR := hid (show Fs.crs f mk = (Fs.swp (Fs.crn mk 0 f.1, f.2.2, f.2.2), 0) by rw [HR.out, HCD.out])
      clear hall hlt hk
      go_wp2_with fail
      refine HSP.out.mono ?_
      rintro e w8 ⟨v8, rfl, hf8, hx8⟩
      have FO := hid (hf8.low HSR.out)
      have X8 : Hid (Ext w w8) := hid (X0.out.then hx8)
      have F8 := hid (BT.out.keep hx8)
      obtain ⟨S1, b1, S2, b2, S3, b3, rfl, _, _, _⟩ := hf8
      obtain ⟨FW, hFW⟩ : ∃ F, F = Fs.swp (Fs.crn mk 0 f.1, f.2.2, f.2.2) := ⟨_, rfl⟩
      rw [← hFW] at FO HRR ⊢
      obtain ⟨n8, hn8⟩ : ∃ n, n = FW.1.length := ⟨_, rfl⟩
      obtain ⟨m8, hm8⟩ : ∃ n, n = FW.2.1.length := ⟨_, rfl⟩
      obtain ⟨q8, hq8⟩ : ∃ n, n = FW.2.2.length := ⟨_, rfl⟩
      rw [← hn8, ← hm8, ← hq8] at FO
      rw [← hn8, ← hm8, ← hq8]
      have t0 := F8.out.cell 0
      have t1 := F8.out.cell 1
      have t2 := F8.out.cell 2
      have x0 := F8.out.frozen 0
      have x1 := F8.out.frozen 1
      have x2 := F8.out.frozen 2
      clear hx8 hFW hn8 hm8 hq8
      go_wp2
      have hne : w.heap.size + 1 < w.heap.size + 2 := by omega
      have HBF := hid ((((F8.out.set 0 (.slice S1 n8 b1)).set 1 (.slice S2 m8 b2)).set 2 (.slice S3 q8 b3)).cast (cs' := #[.slice S1 n8 b1, .slice S2 m8 b2, .slice S3 q8 b3]) (by simp))
      have XF := hid (Ext.put (Ext.put (Ext.put X8.out (p := ⟨w.heap.size + 1, 0, none⟩) (by simp only; omega) (.slice S1 n8 b1)) (p := ⟨w.heap.size + 1, 1, none⟩) (by simp only; omega) (.slice S2 m8 b2)) (p := ⟨w.heap.size + 1, 2, none⟩) (by simp only; omega) (.slice S3 q8 b3))
      refine bodyPost_ret (results_blk2 rfl _ _ (w.heap.size + 1) 25 _ _ rfl HBF.out Tryd.underlying25 rfl (by kernel_rfl)) rfl ?_
      exact ⟨_, by rw [HRR.out]; rfl, by rw [HRR.out]; exact (((FO.out.put (p := ⟨w.heap.size + 1, 0, none⟩) hne _).put (p := ⟨w.heap.size + 1, 1, none⟩) hne _).put (p := ⟨w.heap.size + 1, 2, none⟩) hne _).low (by omega), XF.out⟩
theorem crashedOf_any (f : Fs.FSy) (mk : Nat) (v : Value) (w : World) (hv : FsV w v f) (hb : Fs.FsB f) (hmk : mk < 18446744073709551616) :
    Calls Tryd.prog 17 #[v, .int .u64 mk] w fun e w' => ∃ v', e = .returned (.tuple #[v', .int .i64 ((Fs.crs f mk).2 : Nat)]) ∧ FsO w' w.heap.size v' (Fs.crs f mk).1 ∧ Ext w w' := by
  by_cases h : Fs.fsck f = 0
  · cases hl : Fs.lnd mk 63
    · exact crashedOf_no f mk v w hv hb hmk h hl
    · exact crashedOf_yes f mk v w hv hb hmk h hl
  · exact crashedOf_bad f mk v w hv hb hmk h
end Go.Proofs.YtolhifnlahllnaaDoor
end
section
namespace Hy.Fs
open Go
def sA : ByteArray := ⟨#[97]⟩
def sB : ByteArray := ⟨#[98]⟩
def s1 : ByteArray := ⟨#[111, 110, 101]⟩
def s2 : ByteArray := ⟨#[116, 119, 111]⟩
def s0 : ByteArray := ⟨#[]⟩
def bOps : List Opn := [(1, sA, s0, s1), (2, sA, s0, s0), (5, s0, s0, s0), (1, sB, s0, s2), (3, sB, sA, s0)]
def bA : FSy := ([(s1, s1), (s2, s0)], [(sA, 1)], [(sA, 0)])
def bC : FSy := ([(s1, s1)], [(sA, 0)], [(sA, 0)])
def bD : FSy := ([(s2, s2)], [(sA, 0)], [(sA, 0)])
def bE : FSy := ([(s0, s0)], [], [])
theorem bg_ply : ply fs0 bOps = (bA, 0) := by decide +kernel
theorem bg_r1 : rdf bA sA = (s2, 0) := by decide +kernel
theorem bg_c1 : crs bA 0 = (bC, 0) := by decide +kernel
theorem bg_r2 : rdf bC sA = (s1, 0) := by decide +kernel
theorem bg_c2 : crs bA 9223372036854775810 = (bD, 0) := by decide +kernel
theorem bg_r3 : rdf bD sA = (s2, 0) := by decide +kernel
theorem bg_r4 : rdf bD sB = (s0, 5) := by decide +kernel
theorem bg_e : fsck bE = 4 := by decide +kernel
theorem bg_bA : FsB bA := (ok_iff.1 (by decide +kernel : fsck bA = 0)).b
theorem bg_bC : FsB bC := (ok_iff.1 (by decide +kernel : fsck bC = 0)).b
theorem bg_bD : FsB bD := (ok_iff.1 (by decide +kernel : fsck bD = 0)).b
theorem bg_bE : FsB bE := ⟨by decide, by decide, by decide, by simp [bE], by simp [bE], by simp [bE], by simp [bE]⟩
theorem bg_ops : ∀ o ∈ bOps, OpB o := by
  intro o ho
  simp only [bOps, List.mem_cons, List.not_mem_nil, or_false] at ho
  rcases ho with rfl | rfl | rfl | rfl | rfl <;> exact ⟨by decide, by decide, by decide⟩
end Hy.Fs
namespace Go.Proofs.YtolhifnlahllnaaDoor
open Go.RowKit Hy
/-- a cut behind a region: the file system that it yields lies in a block of its own -/
theorem wp_cutFS {P : Program} {c : Code} {Q : Exit → Act → World → Prop} {a : Act} {w : World} (A : Nat → Nat → Option Addr → Nat → Nat → Option Addr → Nat → Nat → Option Addr → Nat → Nat → Act) (F : Nat → Nat → Option Addr → Nat → Nat → Option Addr → Nat → Nat → Option Addr → Nat → Nat → World → Prop)
    (h1 : c.wp P (fun e a' w' => e = .normal ∧ ∃ x g A1 n1 c1 A2 n2 c2 A3 n3 c3, a' = A x g A1 n1 c1 A2 n2 c2 A3 n3 c3 ∧ F x g A1 n1 c1 A2 n2 c2 A3 n3 c3 w') a w)
    (h2 : ∀ x g A1 n1 c1 A2 n2 c2 A3 n3 c3 w', F x g A1 n1 c1 A2 n2 c2 A3 n3 c3 w' → Q .normal (A x g A1 n1 c1 A2 n2 c2 A3 n3 c3) w') : c.wp P Q a w :=
  Code.wp_mono (by rintro e a' w' ⟨rfl, x, g, A1, n1, c1, A2, n2, c2, A3, n3, c3, rfl, h⟩; exact h2 _ _ _ _ _ _ _ _ _ _ _ _ h) h1
theorem FsO.putB {w : World} {base : Nat} {v : Value} {f : Fs.FSy} {g : Nat} {cs : Array Value} (h : FsO w base v f) (hg : Blk w g 25 cs) (i : Nat) (u : Value) : FsO (w.setCell ⟨g, i, none⟩ u) base v f := by
  obtain ⟨A1, c1, A2, c2, A3, c3, e, h1, h2, h3⟩ := h
  exact ⟨A1, c1, A2, c2, A3, c3, e, own_put h1 (own_nblk h1 hg (by decide)) u, own_put h2 (own_nblk h2 hg (by decide)) u, own_put h3 (own_nblk h3 hg (by decide)) u⟩
theorem FsV.len {w : World} {f : Fs.FSy} {A1 A2 A3 : Option Addr} {n1 n2 n3 c1 c2 c3 : Nat} (h : FsV w (.agg #[.slice A1 n1 c1, .slice A2 n2 c2, .slice A3 n3 c3]) f) : n1 = f.1.length ∧ n2 = f.2.1.length ∧ n3 = f.2.2.length := by
  obtain ⟨NA, nc, DA, dc, SA, sc, e, _⟩ := h
  simp only [Value.agg.injEq, Array.mk.injEq, List.cons.injEq, Value.slice.injEq, and_true] at e
  exact ⟨e.1.2.1, e.2.1.2.1, e.2.2.2.1⟩
theorem op_any (kk : Int) (nn tt xx : ByteArray) (w : World) :
    Calls Tryd.prog 24 #[.int .i64 kk, .string nn, .string tt, .string xx] w fun e w' => e = .returned (.agg #[.int .i64 kk, .string nn, .string tt, .string xx]) ∧ Ext w w' := by
  go_enter Tryd.func24, Tryd.ntmps24
  go_wp2
  refine bodyPost_ret (results_blk rfl _ _ w.heap.size 27 _ _ rfl (Blk.new _ _ _) Tryd.underlying27 rfl (by kernel_rfl)) rfl ?_
  exact ⟨rfl, (ext_refl _).new _⟩
set_option maxHeartbeats 3200000 in
set_option maxRecDepth 100000 in
theorem fsBegun_any (w : World) : Calls Tryd.prog 18 #[] w fun e w' => e = .returned (.bool true) ∧ Ext w w' := by
  go_enter Tryd.func18, Tryd.ntmps18
  have X : Hid (Ext w w) := hid (ext_refl w)
  go_wp2_with fail
  refine Calls.mono (op_any _ _ _ _ _) ?_
  rintro e y1 ⟨rfl, hx⟩
  replace X : Hid (Ext w y1) := hid (X.out.then hx)
  clear hx
  go_wp2_with fail
  refine Calls.mono (op_any _ _ _ _ _) ?_
  rintro e y2 ⟨rfl, hx⟩
  replace X : Hid (Ext w y2) := hid (X.out.then hx)
  clear hx
  go_wp2_with fail
  refine Calls.mono (op_any _ _ _ _ _) ?_
  rintro e y3 ⟨rfl, hx⟩
  replace X : Hid (Ext w y3) := hid (X.out.then hx)
  clear hx
  go_wp2_with fail
  refine Calls.mono (op_any _ _ _ _ _) ?_
  rintro e y4 ⟨rfl, hx⟩
  replace X : Hid (Ext w y4) := hid (X.out.then hx)
  clear hx
  go_wp2_with fail
  refine Calls.mono (op_any _ _ _ _ _) ?_
  rintro e y5 ⟨rfl, hx⟩
  replace X : Hid (Ext w y5) := hid (X.out.then hx)
  clear hx
  have XN := hid (Ext.new (ext_refl y5) (.cells #[.int .i64 1, .string Fs.sA, .string Fs.s0, .string Fs.s1, .int .i64 2, .string Fs.sA, .string Fs.s0, .string Fs.s0, .int .i64 5, .string Fs.s0, .string Fs.s0, .string Fs.s0, .int .i64 1, .string Fs.sB, .string Fs.s0, .string Fs.s2, .int .i64 3, .string Fs.sB, .string Fs.sA, .string Fs.s0] 27))
  go_wp2_with fail
  refine Calls.mono (play_any Fs.fs0 Fs.bOps _ 5 5 _ _ (fs0_V _) Fs.fs0_b rfl (rd_lit rfl rfl) (by decide) Fs.bg_ops) ?_
  rintro e w9 ⟨v', he, hv, hx⟩
  rw [Fs.bg_ply] at he hv
  have VA := hid hv.V
  obtain ⟨A1, c1, A2, c2, A3, c3, rfl, _, _, _⟩ := hv
  obtain rfl := he
  have hl1 : Fs.bA.1.length = 2 := rfl
  have hl2 : Fs.bA.2.1.length = 1 := rfl
  have hl3 : Fs.bA.2.2.length = 1 := rfl
  rw [hl1, hl2, hl3] at VA ⊢
  replace X : Hid (Ext w w9) := hid (Ext.then (X.out.then XN.out) hx)
  clear hx hl1 hl2 hl3 XN
  have XN := hid (Ext.new (ext_refl w9) (.cells #[.slice A1 2 c1, .slice A2 1 c2, .slice A3 1 c3] 25))
  have B0 := hid (Blk.new w9 25 #[.slice A1 2 c1, .slice A2 1 c2, .slice A3 1 c3])
  go_wp2_with fail
  refine Calls.mono (read_any Fs.bA Fs.sA _ _ (VA.out.keep XN.out) Fs.bg_bA) ?_
  rintro e w1 ⟨he, hx⟩
  obtain rfl : e = .returned (.tuple #[.string Fs.s2, .int .i64 0]) := by rw [he, Fs.bg_r1]; rfl
  clear he
  replace X : Hid (Ext w w1) := hid (Ext.then (X.out.then XN.out) hx)
  have B := hid (B0.out.keep hx)
  have V := hid ((VA.out.keep XN.out).keep hx)
  clear hx VA B0 XN
  have a0 := B.out.cell 0
  have a1 := B.out.cell 1
  have a2 := B.out.cell 2
  go_wp2_with fail
  refine Calls.mono (crash_any Fs.bA 0 _ _ V.out Fs.bg_bA (by decide)) ?_
  rintro e w2 ⟨v', he, hv, hx⟩
  rw [Fs.bg_c1] at he hv
  have VC := hid hv.V
  obtain ⟨C1, d1, C2, d2, C3, d3, rfl, _, _, _⟩ := hv
  obtain rfl := he
  have hl1 : Fs.bC.1.length = 1 := rfl
  have hl2 : Fs.bC.2.1.length = 1 := rfl
  have hl3 : Fs.bC.2.2.length = 1 := rfl
  rw [hl1, hl2, hl3] at VC ⊢
  replace X : Hid (Ext w w2) := hid (X.out.then hx)
  replace B := hid (B.out.keep hx)
  replace V := hid (V.out.keep hx)
  clear hx a0 a1 a2 hl1 hl2 hl3
  have XN := hid (Ext.new (ext_refl w2) (.cells #[.slice C1 1 d1, .slice C2 1 d2, .slice C3 1 d3] 25))
  go_wp2_with fail
  refine Calls.mono (read_any Fs.bC Fs.sA _ _ (VC.out.keep XN.out) Fs.bg_bC) ?_
  rintro e w3 ⟨he, hx⟩
  obtain rfl : e = .returned (.tuple #[.string Fs.s1, .int .i64 0]) := by rw [he, Fs.bg_r2]; rfl
  clear he
  replace X : Hid (Ext w w3) := hid (Ext.then (X.out.then XN.out) hx)
  replace B := hid ((B.out.keep XN.out).keep hx)
  replace V := hid ((V.out.keep XN.out).keep hx)
  have BC := hid ((Blk.new w2 25 #[.slice C1 1 d1, .slice C2 1 d2, .slice C3 1 d3]).keep hx)
  clear hx XN VC
  have a0 := B.out.cell 0
  have a1 := B.out.cell 1
  have a2 := B.out.cell 2
  go_wp2_with fail
  refine Calls.mono (crash_any Fs.bA 9223372036854775810 _ _ V.out Fs.bg_bA (by decide)) ?_
  rintro e w4 ⟨v', he, hv, hx⟩
  rw [Fs.bg_c2] at he hv
  have VD := hid hv.V
  obtain ⟨D1, d1', D2, d2', D3, d3', rfl, _, _, _⟩ := hv
  obtain rfl := he
  have hl1 : Fs.bD.1.length = 1 := rfl
  have hl2 : Fs.bD.2.1.length = 1 := rfl
  have hl3 : Fs.bD.2.2.length = 1 := rfl
  rw [hl1, hl2, hl3] at VD ⊢
  replace X : Hid (Ext w w4) := hid (X.out.then hx)
  replace B := hid (B.out.keep hx)
  replace BC := hid (BC.out.keep hx)
  clear hx a0 a1 a2 hl1 hl2 hl3
  have XN := hid (Ext.new (ext_refl w4) (.cells #[.slice D1 1 d1', .slice D2 1 d2', .slice D3 1 d3'] 25))
  go_wp2_with fail
  refine Calls.mono (read_any Fs.bD Fs.sA _ _ (VD.out.keep XN.out) Fs.bg_bD) ?_
  rintro e w5 ⟨he, hx⟩
  obtain rfl : e = .returned (.tuple #[.string Fs.s2, .int .i64 0]) := by rw [he, Fs.bg_r3]; rfl
  clear he
  replace X : Hid (Ext w w5) := hid (Ext.then (X.out.then XN.out) hx)
  replace B := hid ((B.out.keep XN.out).keep hx)
  replace BC := hid ((BC.out.keep XN.out).keep hx)
  have BD := hid ((Blk.new w4 25 #[.slice D1 1 d1', .slice D2 1 d2', .slice D3 1 d3']).keep hx)
  replace VD := hid ((VD.out.keep XN.out).keep hx)
  clear hx XN
  have a0 := BD.out.cell 0
  have a1 := BD.out.cell 1
  have a2 := BD.out.cell 2
  go_wp2_with fail
  refine Calls.mono (read_any Fs.bD Fs.sB _ _ VD.out Fs.bg_bD) ?_
  rintro e w6 ⟨he, hx⟩
  obtain rfl : e = .returned (.tuple #[.string Fs.s0, .int .i64 5]) := by rw [he, Fs.bg_r4]; rfl
  clear he
  replace X : Hid (Ext w w6) := hid (X.out.then hx)
  replace B := hid (B.out.keep hx)
  replace BC := hid (BC.out.keep hx)
  clear hx a0 a1 a2 BD VD
  have a0 := B.out.cell 0
  have b0 := BC.out.cell 0
  have t1 : Fs.s1.toList = [111, 110, 101] := by rw [ByteArray.toList_eq]; rfl
  have t2 : Fs.s2.toList = [116, 119, 111] := by rw [ByteArray.toList_eq]; rfl
  have XN := hid (Ext.new (ext_refl w6) (.cells #[.string ⟨#[]⟩, .string ⟨#[]⟩] 49))
  have VE : Hid (FsV (w6.alloc (.cells #[.string ⟨#[]⟩, .string ⟨#[]⟩] 49)) (.agg #[.slice (some ⟨w6.heap.size, 0, none⟩) 1 1, .slice none 0 0, .slice none 0 0]) Fs.bE) := hid (FsV.mk' rfl rfl rfl (rd_lit rfl rfl) (fun h => by simp [Fs.bE, ens] at h) (fun h => by simp [Fs.bE, ens] at h) (fun h => by cases h) (fun _ => rfl) (fun _ => rfl))
  go_wp2_with fail
  refine Calls.mono (check_V Fs.bE _ _ VE.out Fs.bg_bE) ?_
  rintro e w7 ⟨he, hx⟩
  obtain rfl : e = .returned (.int .i64 4) := by rw [he, Fs.bg_e]; rfl
  replace X : Hid (Ext w w7) := hid (Ext.then (X.out.then XN.out) hx)
  clear hx he
  go_wp2
  go_returns
  exact ⟨rfl, X.out⟩
end Go.Proofs.YtolhifnlahllnaaDoor
end
section
namespace Go.Proofs.YtolhifnlahllnaaDoor
open Go.RowKit Hy
theorem fsRead_V (f : Fs.FSy) (s : ByteArray) (v : Value) (w : World) (h : FsV w v f) (hb : Fs.FsB f) : Calls Tryd.prog 15 #[v, .string s] w fun e w' => e = .returned (.tuple #[.string (Fs.rdf f s).1, .int .i64 ((Fs.rdf f s).2 : Nat)]) ∧ Ext w w' := by
  obtain ⟨NA, nc, DA, dc, SA, sc, rfl, h1, h2, h3, _⟩ := h
  exact fsRead_any f s NA DA SA _ nc _ dc _ sc w rfl h1 rfl h2 rfl h3 hb.n hb.m hb.q hb.d hb.s
theorem doneOf_V (f : Fs.FSy) (o : Fs.Opn) (v : Value) (w : World) (hv : FsV w v f) (hb : Fs.FsB f) (ho : Fs.OpB o) :
    Calls Tryd.prog 16 #[v, Fs.opV o] w fun e w' => ∃ v', e = .returned (.tuple #[v', .int .i64 ((Fs.don f o).2 : Nat)]) ∧ FsV w' v' (Fs.don f o).1 ∧ Ext w w' :=
  (doneOf_any (fun _ => True) f o v w hv.P (fun _ _ => trivial) hb ho).mono fun _ _ ⟨v', e, h, x⟩ => ⟨v', e, h.V, x⟩
theorem do_V (f : Fs.FSy) (o : Fs.Opn) (v : Value) (w : World) (hv : FsV w v f) (hb : Fs.FsB f) (ho : Fs.OpB o) :
    Calls Tryd.prog 13 #[v, Fs.opV o] w fun e w' => ∃ v', e = .returned (.tuple #[v', .int .i64 ((Fs.don f o).2 : Nat)]) ∧ FsV w' v' (Fs.don f o).1 ∧ Ext w w' :=
  (doneP_any f o v w hv hb ho.1 ho.2.1 ho.2.2).mono fun _ _ ⟨v', e, h, x⟩ => ⟨v', e, h.V, x⟩
theorem crash_V (f : Fs.FSy) (mk : Nat) (v : Value) (w : World) (hv : FsV w v f) (hb : Fs.FsB f) (hmk : mk < 18446744073709551616) :
    Calls Tryd.prog 14 #[v, .int .u64 mk] w fun e w' => ∃ v', e = .returned (.tuple #[v', .int .i64 ((Fs.crs f mk).2 : Nat)]) ∧ FsV w' v' (Fs.crs f mk).1 ∧ Ext w w' :=
  (crash_any f mk v w hv hb hmk).mono fun _ _ ⟨v', e, h, x⟩ => ⟨v', e, h.V, x⟩
theorem crashedOf_V (f : Fs.FSy) (mk : Nat) (v : Value) (w : World) (hv : FsV w v f) (hb : Fs.FsB f) (hmk : mk < 18446744073709551616) :
    Calls Tryd.prog 17 #[v, .int .u64 mk] w fun e w' => ∃ v', e = .returned (.tuple #[v', .int .i64 ((Fs.crs f mk).2 : Nat)]) ∧ FsV w' v' (Fs.crs f mk).1 ∧ Ext w w' :=
  (crashedOf_any f mk v w hv hb hmk).mono fun _ _ ⟨v', e, h, x⟩ => ⟨v', e, h.V, x⟩
theorem play_V (f : Fs.FSy) (l : List Fs.Opn) (A : Option Addr) (k kc : Nat) (v : Value) (w : World) (hv : FsV w v f) (hb : Fs.FsB f) (hl : l.length = k) (hr : Rd w A (Fs.ops l)) (hkl : k ≤ 140737488355328) (hlb : ∀ o ∈ l, Fs.OpB o) :
    Calls Tryd.prog 22 #[v, .slice A k kc] w fun e w' => ∃ v', e = .returned (.tuple #[v', .int .i64 ((Fs.ply f l).2 : Nat)]) ∧ FsV w' v' (Fs.ply f l).1 ∧ Ext w w' :=
  (play_any f l A k kc v w hv hb hl hr hkl hlb).mono fun _ _ ⟨v', e, h, x⟩ => ⟨v', e, h.V, x⟩
theorem sameFS_same (f : Fs.FSy) (v v' : Value) (w : World) (hv : FsV w v f) (hv' : FsV w v' f) (hb : Fs.FsB f) :
    Calls Tryd.prog 21 #[v, v'] w fun e w' => e = .returned (.bool true) ∧ Ext w w' :=
  (sameFS_any f f v v' w hv hv' hb).mono fun _ _ ⟨e, x⟩ => ⟨by rw [e, Fs.sameFS_iff.2 rfl], x⟩
theorem FsV.shape {w : World} {v : Value} {f : Fs.FSy} (h : FsV w v f) : ∃ NA nn nc DA dn dc SA sn sc, v = .agg #[.slice NA nn nc, .slice DA dn dc, .slice SA sn sc] := by
  obtain ⟨NA, nc, DA, dc, SA, sc, e, _⟩ := h
  exact ⟨_, _, _, _, _, _, _, _, _, e⟩
end Go.Proofs.YtolhifnlahllnaaDoor
namespace Hy.Fs
theorem crs_b {f : FSy} {mk : Nat} : FsB (crs f mk).1 := by
  by_cases h : fsck f = 0
  · exact (crs_fine (ok_iff.1 h) mk).b
  · rw [crs_bad h]; exact fs0_b
theorem ply_b {f : FSy} {l : List Opn} : FsB (ply f l).1 := by
  by_cases h0 : fsck f = 0
  · by_cases h64 : 64 < l.length
    · rw [ply_many h0 h64]; exact fs0_b
    · rw [ply_run h0 h64]
      by_cases h : (run f l).2 = 0
      · exact (run_ok (ok_iff.1 h0) h).b
      · have : ∀ (l : List Opn) (f : FSy), (run f l).2 ≠ 0 → (run f l).1 = fs0 := by
          intro l
          induction l with
          | nil => intro f h; exact absurd rfl h
          | cons o r ih =>
            intro f h
            simp only [run] at h ⊢
            by_cases hd : (don f o).2 ≠ 0
            · rw [if_pos hd]
            · rw [if_neg hd] at h ⊢; exact ih _ h
        rw [this l f h]; exact fs0_b
  · rw [ply_bad h0]; exact fs0_b
end Hy.Fs
namespace Go.Proofs.YtolhifnlahllnaaDoor
open Go.RowKit Hy
set_option maxHeartbeats 3200000 in
set_option maxRecDepth 100000 in
theorem fsTells_any (f : Fs.FSy) (s : ByteArray) (o : Fs.Opn) (mk : Nat) (v : Value) (w : World) (hv : FsV w v f) (hb : Fs.FsB f) (ho : Fs.OpB o) (hmk : mk < 18446744073709551616) :
    Calls Tryd.prog 3 #[v, .string s, Fs.opV o, .int .u64 mk] w fun e w' => e = .returned (.bool true) ∧ Ext w w' := by
  have HB := hid hb; have HMK := hid hmk; have HOB := hid ho
  have HBD := hid (Fs.don_b f o)
  have HBC := hid (@Fs.crs_b f mk)
  obtain ⟨kk, nn0, tt, xx⟩ := o
  show Calls _ _ #[_, _, .agg #[.int .i64 kk, .string nn0, .string tt, .string xx], _] w _
  have HV := hid hv
  obtain ⟨NA, nn, nc, DA, dn, dc, SA, sn, sc, rfl⟩ := hv.shape
  clear hv hb hmk ho
  go_enter Tryd.func3, Tryd.ntmps3
  go_upto_region 1 with fail
  refine wp_gen (fun w' => Ext w w' ∧ Blk w' w.heap.size 25 #[.slice NA nn nc, .slice DA dn dc, .slice SA sn sc] ∧ Blk w' (w.heap.size + 1) 27 #[.int .i64 kk, .string nn0, .string tt, .string xx]) ⟨((ext_refl _).new _).new _, (Blk.new _ _ _).alloc _, Blk.newAt (by simp)⟩ ?_
  rintro wz ⟨B0, B1, B2⟩
  have X : Hid (Ext w wz) := hid B0
  have F1 := hid B1
  have F2 := hid B2
  replace HV := hid (HV.out.keep B0)
  clear B0 B1 B2
  have p0 := F1.out.cell 0
  have p1 := F1.out.cell 1
  have p2 := F1.out.cell 2
  obtain ⟨r1, hr1⟩ : ∃ r, r = (Fs.rdf f s).1 := ⟨_, rfl⟩
  obtain ⟨r2, hr2⟩ : ∃ r, r = (Fs.rdf f s).2 := ⟨_, rfl⟩
  have HRD := hid (fun wx (hx : Ext wz wx) => read_any f s _ wx (HV.out.keep hx) HB.out)
  have HRO := hid (fun wx (hx : Ext wz wx) => fsRead_V f s _ wx (HV.out.keep hx) HB.out)
  rw [← hr1, ← hr2] at HRD HRO
  clear hr1 hr2
  go_wp2_with fail
  refine Calls.mono (HRD.out _ (ext_refl _)) ?_
  rintro e w1 ⟨rfl, hx⟩
  have XZ := hid hx
  replace X := hid (X.out.then hx)
  replace HV := hid (HV.out.keep hx)
  replace F1 := hid (F1.out.keep hx)
  replace F2 := hid (F2.out.keep hx)
  clear hx p0 p1 p2
  have p0 := F1.out.cell 0
  have p1 := F1.out.cell 1
  have p2 := F1.out.cell 2
  have o0 := F2.out.cell 0
  have o1 := F2.out.cell 1
  have o2 := F2.out.cell 2
  have o3 := F2.out.cell 3
  go_wp2_with fail
  refine Calls.mono (do_V f (kk, nn0, tt, xx) _ _ HV.out HB.out HOB.out) ?_
  rintro e w2 ⟨v', rfl, hv, hx⟩
  obtain ⟨A1d, n1d, c1d, A2d, n2d, c2d, A3d, n3d, c3d, rfl⟩ := hv.shape
  have hn := Ext.new (ext_refl w2) (.cells #[.slice A1d n1d c1d, .slice A2d n2d c2d, .slice A3d n3d c3d] 25)
  have Bd := hid (Blk.new w2 25 #[.slice A1d n1d c1d, .slice A2d n2d c2d, .slice A3d n3d c3d])
  have Vd := hid (hv.keep hn)
  have hz := hx
  have hy := Ext.then hx hn
  replace X := hid (X.out.then hy)
  replace HV := hid (HV.out.keep hy)
  replace F1 := hid (F1.out.keep hy)
  replace F2 := hid (F2.out.keep hy)
  replace XZ := hid (XZ.out.then hy)
  clear hz hx hv hn hy
  clear p0 p1 p2 o0 o1 o2 o3
  have p0 := F1.out.cell 0
  have p1 := F1.out.cell 1
  have p2 := F1.out.cell 2
  go_wp2_with fail
  refine Calls.mono (crash_V f mk _ _ HV.out HB.out HMK.out) ?_
  rintro e w3 ⟨v', rfl, hv, hx⟩
  obtain ⟨A1c, n1c, c1c, A2c, n2c, c2c, A3c, n3c, c3c, rfl⟩ := hv.shape
  have hn := Ext.new (ext_refl w3) (.cells #[.slice A1c n1c c1c, .slice A2c n2c c2c, .slice A3c n3c c3c] 25)
  have Bc := hid (Blk.new w3 25 #[.slice A1c n1c c1c, .slice A2c n2c c2c, .slice A3c n3c c3c])
  have Vc := hid (hv.keep hn)
  have hy := Ext.then hx hn
  replace X := hid (X.out.then hy)
  replace HV := hid (HV.out.keep hy)
  replace Vd := hid (Vd.out.keep hy)
  replace F1 := hid (F1.out.keep hy)
  replace F2 := hid (F2.out.keep hy)
  replace Bd := hid (Bd.out.keep hy)
  replace XZ := hid (XZ.out.then hy)
  clear hx hv hn hy
  clear p0 p1 p2
  have p0 := F1.out.cell 0
  have p1 := F1.out.cell 1
  have p2 := F1.out.cell 2
  go_wp2_with fail
  refine Calls.mono (HRO.out _ XZ.out) ?_
  rintro e w4 ⟨rfl, hx⟩
  replace X := hid (X.out.then hx)
  replace HV := hid (HV.out.keep hx)
  replace F1 := hid (F1.out.keep hx)
  replace F2 := hid (F2.out.keep hx)
  replace Vd := hid (Vd.out.keep hx)
  replace Bd := hid (Bd.out.keep hx)
  replace Vc := hid (Vc.out.keep hx)
  replace Bc := hid (Bc.out.keep hx)
  clear hx p0 p1 p2 XZ HRD HRO
  have p0 := F1.out.cell 0
  have p1 := F1.out.cell 1
  have p2 := F1.out.cell 2
  have o0 := F2.out.cell 0
  have o1 := F2.out.cell 1
  have o2 := F2.out.cell 2
  have o3 := F2.out.cell 3
  go_wp2_with fail
  refine Calls.mono (doneOf_V f (kk, nn0, tt, xx) _ _ HV.out HB.out HOB.out) ?_
  rintro e w5 ⟨v', rfl, hv, hx⟩
  obtain ⟨A1x, n1x, c1x, A2x, n2x, c2x, A3x, n3x, c3x, rfl⟩ := hv.shape
  have hn := Ext.new (ext_refl w5) (.cells #[.slice A1x n1x c1x, .slice A2x n2x c2x, .slice A3x n3x c3x] 25)
  have Bx := hid (Blk.new w5 25 #[.slice A1x n1x c1x, .slice A2x n2x c2x, .slice A3x n3x c3x])
  have Vx := hid (hv.keep hn)
  have hy := Ext.then hx hn
  replace X := hid (X.out.then hy)
  replace HV := hid (HV.out.keep hy)
  replace Vd := hid (Vd.out.keep hy)
  replace Vc := hid (Vc.out.keep hy)
  replace F1 := hid (F1.out.keep hy)
  replace F2 := hid (F2.out.keep hy)
  replace Bd := hid (Bd.out.keep hy)
  replace Bc := hid (Bc.out.keep hy)
  clear hx hv hn hy
  clear p0 p1 p2 o0 o1 o2 o3
  have p0 := F1.out.cell 0
  have p1 := F1.out.cell 1
  have p2 := F1.out.cell 2
  go_wp2_with fail
  refine Calls.mono (crashedOf_V f mk _ _ HV.out HB.out HMK.out) ?_
  rintro e w6 ⟨v', rfl, hv, hx⟩
  obtain ⟨A1y, n1y, c1y, A2y, n2y, c2y, A3y, n3y, c3y, rfl⟩ := hv.shape
  have hn := Ext.new (ext_refl w6) (.cells #[.slice A1y n1y c1y, .slice A2y n2y c2y, .slice A3y n3y c3y] 25)
  have By := hid (Blk.new w6 25 #[.slice A1y n1y c1y, .slice A2y n2y c2y, .slice A3y n3y c3y])
  have Vy := hid (hv.keep hn)
  have hy := Ext.then hx hn
  replace X := hid (X.out.then hy)
  replace HV := hid (HV.out.keep hy)
  replace Vd := hid (Vd.out.keep hy)
  replace Vc := hid (Vc.out.keep hy)
  replace Vx := hid (Vx.out.keep hy)
  replace F1 := hid (F1.out.keep hy)
  replace F2 := hid (F2.out.keep hy)
  replace Bd := hid (Bd.out.keep hy)
  replace Bc := hid (Bc.out.keep hy)
  replace Bx := hid (Bx.out.keep hy)
  clear hx hv hn hy
  clear p0 p1 p2
  go_upto_region 7 with fail
  have p0 := F1.out.cell 0
  have p1 := F1.out.cell 1
  have p2 := F1.out.cell 2
  have d0 := Bd.out.cell 0
  have d1 := Bd.out.cell 1
  have d2 := Bd.out.cell 2
  have c0 := Bc.out.cell 0
  have c1 := Bc.out.cell 1
  have c2 := Bc.out.cell 2
  have x0 := Bx.out.cell 0
  have x1 := Bx.out.cell 1
  have x2 := Bx.out.cell 2
  have y0 := By.out.cell 0
  have y1 := By.out.cell 1
  have y2 := By.out.cell 2
  have p0r := cell_regrown p0
  have p1r := cell_regrown p1
  have p2r := cell_regrown p2
  have d0r := cell_regrown d0
  have d1r := cell_regrown d1
  have d2r := cell_regrown d2
  have c0r := cell_regrown c0
  have c1r := cell_regrown c1
  have c2r := cell_regrown c2
  have x0r := cell_regrown x0
  have x1r := cell_regrown x1
  have x2r := cell_regrown x2
  have y0r := cell_regrown y0
  have y1r := cell_regrown y1
  have y2r := cell_regrown y2
  generalize (w6.alloc (.cells #[.slice A1y n1y c1y, .slice A2y n2y c2y, .slice A3y n3y c3y] 25)) = w6' at *
  obtain ⟨E, hE⟩ : ∃ E, E = Fs.fsck f := ⟨_, rfl⟩
  have HC1 := hid (fun wx (hx : Ext w6' wx) => check_V f _ wx (HV.out.keep hx) HB.out)
  have HC2 := hid (fun wx (hx : Ext w6' wx) => fsCheck_V f _ wx (HV.out.keep hx) HB.out)
  rw [← hE] at HC1 HC2
  generalize (Fs.don f (kk, nn0, tt, xx)).2 = e1
  generalize (Fs.crs f mk).2 = e2
  clear hE
  refine wp_region_walk [(0, false), (1, true), (2, true), (4, true), (3, false), (5, false), (6, true), (7, true), (8, true), (9, true), (10, true), (11, true), (12, true), (13, true), (14, true), (15, true), (16, true), (17, true), (18, true), (19, true), (20, true), (21, false), (22, true), (23, true), (24, true), (25, true), (26, true), (27, true), (28, true), (29, true), (30, true), (31, false), (32, true), (33, true), (34, true), (35, true), (36, true), (37, true), (38, true)] (by kernel_rfl) (by kernel_rfl) (fun _ _ _ _ _ h => h) (by kernel_rfl) (by rfl) ?_
  simp only [List.filterMap_cons, List.filterMap_nil, List.getElem?_toArray, List.getElem?_cons_zero, List.getElem?_cons_succ, Option.map_some]
  refine wpM_do (by rfl) ?_
  intro K hK
  go_simp
  refine Calls.mono (fsBegun_any _) ?_
  rintro e y1 ⟨rfl, hx⟩
  have XR1 := Ext.then (Ext.draw (ext_refl w6')) hx
  refine hK _ _ XR1 ?_
  clear K hK hx
  repeat (refine wpM_val (by rfl) ?_; intro K hK; go_big_quiet_op; go_big_quiet_on)
  refine wpM_do (by rfl) ?_
  intro K hK
  go_simp
  refine Calls.mono (HC1.out _ XR1) ?_
  rintro e y2 ⟨rfl, hx⟩
  have XR2 := Ext.then XR1 hx
  refine hK _ _ XR2 ?_
  clear K hK hx
  refine wpM_do (by rfl) ?_
  intro K hK
  go_simp
  refine Calls.mono (HC2.out _ XR2) ?_
  rintro e y3 ⟨rfl, hx⟩
  have XR3 := Ext.then XR2 hx
  refine hK _ _ XR3 ?_
  clear K hK hx
  repeat (refine wpM_val (by rfl) ?_; intro K hK; go_big_quiet_op; go_big_quiet_on)
  refine wpM_do (by rfl) ?_
  intro K hK
  go_simp
  refine Calls.mono (sameFS_same _ _ _ _ (Vd.out.keep XR3) (Vx.out.keep XR3) HBD.out) ?_
  rintro e y4 ⟨rfl, hx⟩
  have XR4 := Ext.then XR3 hx
  refine hK _ _ XR4 ?_
  clear K hK hx
  repeat (refine wpM_val (by rfl) ?_; intro K hK; go_big_quiet_op; go_big_quiet_on)
  refine wpM_do (by rfl) ?_
  intro K hK
  go_simp
  refine Calls.mono (sameFS_same _ _ _ _ (Vc.out.keep XR4) (Vy.out.keep XR4) HBC.out) ?_
  rintro e y5 ⟨rfl, hx⟩
  have XR5 := Ext.then XR4 hx
  refine hK _ _ XR5 ?_
  clear K hK hx
  repeat (refine wpM_val (by rfl) ?_; intro K hK; go_big_quiet_op; go_big_quiet_on)
  refine wpM_nil ?_
  go_wp2
  go_returns
  exact ⟨rfl, X.out.then XR5⟩
end Go.Proofs.YtolhifnlahllnaaDoor
end
