/- Files: Clone; own (printed by gen_fst.py). -/
import Derived.Test.YtolhifnlahllnaaDoorFsr
import Derived.Test.YtolhifnlahllnaaDoorGho
import Derived.Test.YtolhifnlahllnaaDoorGro
import Derived.Test.YtolhifnlahllnaaDoorOws
import Derived.Test.YtolhifnlahllnaaDoorCpm
import Derived.Lib.SliceRun
namespace Go.Proofs.YtolhifnlahllnaaDoor
open Go.RowKit Hy
theorem rowEn : RowT Tryd.prog 23 47 2 24 := RowT.mk' (z := .agg #[.string ⟨#[]⟩, .int .i64 0]) Tryd.underlying23 (by kernel_rfl) rfl (by decide)
theorem rowNo : RowT Tryd.prog 22 49 2 32 := RowT.mk' (z := .agg #[.string ⟨#[]⟩, .string ⟨#[]⟩]) Tryd.underlying22 (by kernel_rfl) rfl (by decide)
theorem cloneE_any (l : List Ent) (A : Option Addr) (n cap : Nat) (w : World) (hn : l.length = n) (hr : Rd w A (ens l)) (hA : A = none → n = 0) (hnl : n ≤ 1000000000000) :
    Calls Tryd.prog 42 #[.slice A n cap] w fun e w' => ∃ B c, e = .returned (.slice B n c) ∧ w'.ownsRow w.heap.size 47 2 (.slice B n c) n (ens l) ∧ Ext w w' := by
  have HN := hid hn
  have HR := hid hr
  have HL := hid hnl
  have q := fun (w : World) (a : Option Addr) (n c n' c' : Nat) => Lib.run_eql_slice_nil w 23 47 a n c n' c' Tryd.underlying23
  have hnI : (n : Int) ≤ 1000000000000 := by omega
  cases A with
  | none =>
    obtain rfl : n = 0 := hA rfl
    obtain rfl : l = [] := List.eq_nil_of_length_eq_zero hn
    clear hn hr hA hnl
    go_enter Tryd.func42, Tryd.ntmps42
    go_wp2
    go_returns
    exact ⟨_, _, rfl, World.ownsRow_nil _ _ _ _, ext_refl _⟩
  | some a =>
    clear hn hr hA hnl
    go_enter Tryd.func42, Tryd.ntmps42
    go_wp2_with (at_builtin; go_loud (refine wpList_app rfl (.tmp 5) (.tmp 6) rowEn rfl _ 0 [] rfl (own_new (base := w.heap.size) (n := 0) rfl rfl (Nat.le_refl _) (by decide)) _ n (ens l) rfl (Src.rd Tryd.underlying23 _ n cap _ (by rw [ens_len, HN.out]) (HR.out.keep (Ext.new (ext_refl _) _)) (ens_one _) (fun h => by cases h)) (by have := HL.out; simp only [maxLen]; omega) (by have := HL.out; omega) (by simp) ?_; intro v' w4 hown4 hgrow hat hbel))
    go_returns
    obtain ⟨B, c, e5, _⟩ := Rd.owned hown4
    rw [Nat.zero_add] at e5
    subst e5
    exact ⟨B, c, rfl, by simpa using hown4, (Ext.new (ext_refl w) _).trans hbel⟩
theorem cloneN_any (l : List Nod) (A : Option Addr) (n cap : Nat) (w : World) (hn : l.length = n) (hr : Rd w A (nds l)) (hA : A = none → n = 0) (hnl : n ≤ 1000000000000) :
    Calls Tryd.prog 92 #[.slice A n cap] w fun e w' => ∃ B c, e = .returned (.slice B n c) ∧ w'.ownsRow w.heap.size 49 2 (.slice B n c) n (nds l) ∧ Ext w w' := by
  have HN := hid hn
  have HR := hid hr
  have HL := hid hnl
  have q := fun (w : World) (a : Option Addr) (n c n' c' : Nat) => Lib.run_eql_slice_nil w 22 49 a n c n' c' Tryd.underlying22
  have hnI : (n : Int) ≤ 1000000000000 := by omega
  cases A with
  | none =>
    obtain rfl : n = 0 := hA rfl
    obtain rfl : l = [] := List.eq_nil_of_length_eq_zero hn
    clear hn hr hA hnl
    go_enter Tryd.func92, Tryd.ntmps92
    go_wp2
    go_returns
    exact ⟨_, _, rfl, World.ownsRow_nil _ _ _ _, ext_refl _⟩
  | some a =>
    clear hn hr hA hnl
    go_enter Tryd.func92, Tryd.ntmps92
    go_wp2_with (at_builtin; go_loud (refine wpList_app rfl (.tmp 5) (.tmp 6) rowNo rfl _ 0 [] rfl (own_new (base := w.heap.size) (n := 0) rfl rfl (Nat.le_refl _) (by decide)) _ n (nds l) rfl (Src.rd Tryd.underlying22 _ n cap _ (by rw [nds_len, HN.out]) (HR.out.keep (Ext.new (ext_refl _) _)) (nds_one _) (fun h => by cases h)) (by have := HL.out; simp only [maxLen]; omega) (by have := HL.out; omega) (by simp) ?_; intro v' w4 hown4 hgrow hat hbel))
    go_returns
    obtain ⟨B, c, e5, _⟩ := Rd.owned hown4
    rw [Nat.zero_add] at e5
    subst e5
    exact ⟨B, c, rfl, by simpa using hown4, (Ext.new (ext_refl w) _).trans hbel⟩
/-- a disk in memory of the call's own -/
def Dsk (w : World) (base g : Nat) (f : Fs.FSy) : Prop := ∃ A1 c1 A2 c2 A3 c3, Blk w g 87 #[.slice A1 f.1.length c1, .slice A2 f.2.1.length c2, .slice A3 f.2.2.length c3] ∧ base ≤ g ∧ w.ownsRow base 49 2 (.slice A1 f.1.length c1) f.1.length (nds f.1) ∧ w.ownsRow base 47 2 (.slice A2 f.2.1.length c2) f.2.1.length (ens f.2.1) ∧ w.ownsRow base 47 2 (.slice A3 f.2.2.length c3) f.2.2.length (ens f.2.2) ∧ ∀ a2 a3, A2 = some a2 → A3 = some a3 → a2.block ≠ a3.block
/-- a file system that is read -/
def FsV (w : World) (v : Value) (f : Fs.FSy) : Prop := ∃ NA nc DA dc SA sc, v = .agg #[.slice NA f.1.length nc, .slice DA f.2.1.length dc, .slice SA f.2.2.length sc] ∧ Rd w NA (nds f.1) ∧ Rd w DA (ens f.2.1) ∧ Rd w SA (ens f.2.2) ∧ (NA = none → f.1.length = 0) ∧ (DA = none → f.2.1.length = 0) ∧ (SA = none → f.2.2.length = 0)
theorem FsV.keep {w w' : World} {v : Value} {f : Fs.FSy} (h : FsV w v f) (hx : Ext w w') : FsV w' v f := by
  obtain ⟨NA, nc, DA, dc, SA, sc, e, h1, h2, h3, h4⟩ := h
  exact ⟨NA, nc, DA, dc, SA, sc, e, h1.keep hx, h2.keep hx, h3.keep hx, h4⟩
/-- a file system in memory of the call's own -/
def FsO (w : World) (base : Nat) (v : Value) (f : Fs.FSy) : Prop := ∃ A1 c1 A2 c2 A3 c3, v = .agg #[.slice A1 f.1.length c1, .slice A2 f.2.1.length c2, .slice A3 f.2.2.length c3] ∧ w.ownsRow base 49 2 (.slice A1 f.1.length c1) f.1.length (nds f.1) ∧ w.ownsRow base 47 2 (.slice A2 f.2.1.length c2) f.2.1.length (ens f.2.1) ∧ w.ownsRow base 47 2 (.slice A3 f.2.2.length c3) f.2.2.length (ens f.2.2)
theorem FsO.V {w : World} {base : Nat} {v : Value} {f : Fs.FSy} (h : FsO w base v f) : FsV w v f := by
  obtain ⟨A1, c1, A2, c2, A3, c3, e, o1, o2, o3⟩ := h
  obtain ⟨r1, z1, _⟩ := own_rd o1
  obtain ⟨r2, z2, _⟩ := own_rd o2
  obtain ⟨r3, z3, _⟩ := own_rd o3
  exact ⟨A1, c1, A2, c2, A3, c3, e, r1, r2, r3, z1, z2, z3⟩
theorem own_low' {w : World} {base base' : Nat} {e : TypeId} {size : Nat} {v : Value} {n : Nat} {xs : List Value} (h : w.ownsRow base' e size v n xs) (hb : base ≤ base') : w.ownsRow base e size v n xs := by
  refine ⟨h.1, ?_⟩
  rcases h.2 with h | ⟨g, cap, cur, hv, hg, r⟩
  · exact .inl h
  · exact .inr ⟨g, cap, cur, hv, Nat.le_trans hb hg, r⟩
theorem own_block_rng {w : World} {base : Nat} {e : TypeId} {size : Nat} {v : Value} {n : Nat} {xs : List Value} (h : w.ownsRow base e size v n xs) {b : Nat} (hb : v.ownBlock = some b) : base ≤ b ∧ b < w.heap.size := by
  rcases h.2 with ⟨rfl, _⟩ | ⟨g, cap, cur, rfl, hg, hh, _⟩
  · cases hb
  · injection hb with hb
    subst hb
    refine ⟨hg, ?_⟩
    rcases Nat.lt_or_ge g w.heap.size with hlt | hge
    · exact hlt
    · rw [Array.getElem?_eq_none hge] at hh; cases hh
theorem own_past {w : World} {base : Nat} {e : TypeId} {size : Nat} {v : Value} {n : Nat} {xs : List Value} (h : w.ownsRow base e size v n xs) {p : Addr} (hp : p.block < base) (u : Value) : (w.setCell p u).ownsRow base e size v n xs :=
  own_but h (But.put (but_refl p.block w) p (.inl rfl) u) hp
theorem FsO.put {w : World} {base : Nat} {v : Value} {f : Fs.FSy} (h : FsO w base v f) {p : Addr} (hp : p.block < base) (u : Value) : FsO (w.setCell p u) base v f := by
  obtain ⟨A1, c1, A2, c2, A3, c3, e, o1, o2, o3⟩ := h
  exact ⟨A1, c1, A2, c2, A3, c3, e, own_past o1 hp u, own_past o2 hp u, own_past o3 hp u⟩
theorem FsO.keep {w w' : World} {base : Nat} {v : Value} {f : Fs.FSy} (h : FsO w base v f) (hx : Ext w w') : FsO w' base v f := by
  obtain ⟨A1, c1, A2, c2, A3, c3, e, o1, o2, o3⟩ := h
  exact ⟨A1, c1, A2, c2, A3, c3, e, own_ext o1 hx, own_ext o2 hx, own_ext o3 hx⟩
theorem FsO.low {w : World} {base base' : Nat} {v : Value} {f : Fs.FSy} (h : FsO w base' v f) (hb : base ≤ base') : FsO w base v f := by
  obtain ⟨A1, c1, A2, c2, A3, c3, e, o1, o2, o3⟩ := h
  exact ⟨A1, c1, A2, c2, A3, c3, e, own_low' o1 hb, own_low' o2 hb, own_low' o3 hb⟩
set_option maxRecDepth 100000 in
theorem own_any (f : Fs.FSy) (NA DA SA : Option Addr) (n nc m mc q qc : Nat) (w : World) (hn : f.1.length = n) (hN : Rd w NA (nds f.1)) (hm : f.2.1.length = m) (hD : Rd w DA (ens f.2.1)) (hq : f.2.2.length = q) (hS : Rd w SA (ens f.2.2))
    (hnn : NA = none → n = 0) (hdn : DA = none → m = 0) (hsn : SA = none → q = 0) (hnl : n ≤ 1000000000000) (hml : m ≤ 1000000000000) (hql : q ≤ 1000000000000) :
    Calls Tryd.prog 38 #[.agg #[.slice NA n nc, .slice DA m mc, .slice SA q qc]] w fun e w' => ∃ g, e = .returned (.pointer (some ⟨g, 0, none⟩)) ∧ Dsk w' w.heap.size g f ∧ Ext w w' := by
  have HC1 := hid (fun wx (hx : Ext w wx) => cloneN_any f.1 NA n nc wx hn (hN.keep hx) hnn hnl)
  have HC2 := hid (fun wx (hx : Ext w wx) => cloneE_any f.2.1 DA m mc wx hm (hD.keep hx) hdn hml)
  have HC3 := hid (fun wx (hx : Ext w wx) => cloneE_any f.2.2 SA q qc wx hq (hS.keep hx) hsn hql)
  have HN := hid hn
  have HM := hid hm
  have HQ := hid hq
  clear hn hN hm hD hq hS hnn hdn hsn hnl hml hql
  go_enter Tryd.func38, Tryd.ntmps38
  go_upto_region 1 with fail
  refine wp_gen (fun w' => Ext w w' ∧ Blk w' w.heap.size 25 #[.slice NA n nc, .slice DA m mc, .slice SA q qc]) ⟨(ext_refl _).new _, Blk.new _ _ _⟩ ?_
  rintro wz ⟨B0, B1⟩
  have HB := hid B0
  have a0 := cell_regrown (B1.cell 0)
  have a1 := cell_regrown (B1.cell 1)
  have a2 := cell_regrown (B1.cell 2)
  clear B0 B1
  refine wp_region_walk [(0, true), (1, true), (3, true), (4, true), (6, true), (7, true), (2, false), (5, false), (8, false), (9, true), (10, true), (11, false), (12, true)] (by kernel_rfl) (by kernel_rfl) (fun _ _ _ _ _ h => h) (by kernel_rfl) (by rfl) ?_
  simp only [List.filterMap_cons, List.filterMap_nil, List.getElem?_toArray, List.getElem?_cons_zero, List.getElem?_cons_succ, Option.map_some]
  repeat (refine wpM_val (by rfl) ?_; intro K hK; go_big_quiet_op; go_big_quiet_on)
  refine wpM_do (by rfl) ?_
  intro K hK
  go_simp
  have Y0 : Ext wz wz.drew := (ext_refl wz).draw
  refine Calls.mono (HC1.out _ (HB.out.then Y0)) ?_
  rintro e y1 ⟨A1, c1, rfl, o1, hx⟩
  have Y1 := Ext.then Y0 hx
  refine hK _ _ Y1 ?_
  clear K hK hx
  repeat (refine wpM_val (by rfl) ?_; intro K hK; go_big_quiet_op; go_big_quiet_on)
  refine wpM_do (by rfl) ?_
  intro K hK
  go_simp
  refine Calls.mono (HC2.out _ (HB.out.then Y1)) ?_
  rintro e y2 ⟨A2, c2, rfl, o2, hx⟩
  have Y2 := Ext.then Y1 hx
  have o1' := own_ext o1 hx
  refine hK _ _ Y2 ?_
  clear K hK hx o1
  repeat (refine wpM_val (by rfl) ?_; intro K hK; go_big_quiet_op; go_big_quiet_on)
  refine wpM_do (by rfl) ?_
  intro K hK
  go_simp
  refine Calls.mono (HC3.out _ (HB.out.then Y2)) ?_
  rintro e y3 ⟨A3, c3, rfl, o3, hx⟩
  have Y3 := Ext.then Y2 hx
  have o1 := own_ext o1' hx
  have o2' := own_ext o2 hx
  have HDJ := hid (show ∀ a2 a3, A2 = some a2 → A3 = some a3 → a2.block ≠ a3.block from fun a2 a3 e2 e3 => by
    subst e2 e3
    have h1 := (own_block_rng o2 rfl).2
    have h2 := (own_block_rng o3 rfl).1
    omega)
  refine hK _ _ Y3 ?_
  clear K hK hx o1' o2
  repeat (refine wpM_val (by rfl) ?_; intro K hK; go_big_quiet_op; go_big_quiet_on)
  refine wpM_do (by rfl) ?_
  intro K hK
  go_simp
  have XE := hid ((HB.out.then Y3).new (.cells #[.slice A1 n c1, .slice A2 m c2, .slice A3 q c3] 87))
  have BE := hid (Blk.new y3 87 #[.slice A1 n c1, .slice A2 m c2, .slice A3 q c3])
  have O1 := hid (own_low' (own_ext o1 ((ext_refl y3).new (.cells #[.slice A1 n c1, .slice A2 m c2, .slice A3 q c3] 87))) (HB.out.then Y0).size)
  have O2 := hid (own_low' (own_ext o2' ((ext_refl y3).new (.cells #[.slice A1 n c1, .slice A2 m c2, .slice A3 q c3] 87))) (HB.out.then Y1).size)
  have O3 := hid (own_low' (own_ext o3 ((ext_refl y3).new (.cells #[.slice A1 n c1, .slice A2 m c2, .slice A3 q c3] 87))) (HB.out.then Y2).size)
  have HSZ := hid (HB.out.then Y3).size
  refine hK _ _ (Ext.new Y3 (.cells #[.slice A1 n c1, .slice A2 m c2, .slice A3 q c3] 87)) ?_
  clear K hK o1 o2' o3 Y0 Y1 Y2 Y3 a0 a1 a2
  repeat (refine wpM_val (by rfl) ?_; intro K hK; go_big_quiet_op; go_big_quiet_on)
  refine wpM_nil ?_
  go_wp2
  go_returns
  refine ⟨_, rfl, ⟨A1, c1, A2, c2, A3, c3, ?_, HSZ.out, ?_, ?_, ?_, HDJ.out⟩, XE.out⟩
  · rw [HN.out, HM.out, HQ.out]; exact BE.out
  · rw [HN.out]; exact O1.out
  · rw [HM.out]; exact O2.out
  · rw [HQ.out]; exact O3.out
end Go.Proofs.YtolhifnlahllnaaDoor
