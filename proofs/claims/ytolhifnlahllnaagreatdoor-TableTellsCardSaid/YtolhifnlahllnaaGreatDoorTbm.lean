/- Tables in memory of the call's own; Clone of columns, of cells: walks (printed by gen_tbh.py). Tables: plain words: what is answered by what. No program in sight. Tables: RawRow, Row: walks. Tables: Kinds, True: walks. Tables: Own: walk. Tables: changed, with each of its closures: walks (printed by gen_tbm.py). -/
import Derived.Test.YtolhifnlahllnaaGreatDoorTbe
import Derived.Test.YtolhifnlahllnaaGreatDoorGen
import Derived.Test.YtolhifnlahllnaaGreatDoorQpb
import Derived.Test.YtolhifnlahllnaaGreatDoorBlp
import Derived.Test.YtolhifnlahllnaaGreatDoorGhx
import Derived.Lib.SliceRun
section
namespace Go.Proofs.YtolhifnlahllnaaGreatDoor
open Go.RowKit Hy
theorem rowCo : RowT Tryz.prog 22 39 2 24 := RowT.mk' (z := .agg #[.string ⟨#[]⟩, .int .i64 0]) Tryz.underlying22 (by kernel_rfl) rfl (by decide)
theorem rowCe : RowT Tryz.prog 45 42 3 32 := RowT.mk' (z := .agg #[.int .i64 0, .int .u64 0, .string ⟨#[]⟩]) Tryz.underlying45 (by kernel_rfl) rfl (by decide)
theorem rowRo : RowT Tryz.prog 23 45 1 24 := RowT.mk' (z := .slice none 0 0) Tryz.underlying23 (by kernel_rfl) rfl (by decide)
theorem cloneC_any (l : List Ent) (A : Option Addr) (n cap : Nat) (w : World) (hn : l.length = n) (hr : Rd w A (ens l)) (hA : A = none → n = 0) (hnl : n ≤ 1000000000000) :
    Calls Tryz.prog 95 #[.slice A n cap] w fun e w' => ∃ B c, e = .returned (.slice B n c) ∧ w'.ownsRow w.heap.size 39 2 (.slice B n c) n (ens l) ∧ Ext w w' := by
  have HN := hid hn
  have HR := hid hr
  have HL := hid hnl
  have q := fun (w : World) (a : Option Addr) (n c n' c' : Nat) => Lib.run_eql_slice_nil w 22 39 a n c n' c' Tryz.underlying22
  have hnI : (n : Int) ≤ 1000000000000 := by omega
  cases A with
  | none =>
    obtain rfl : n = 0 := hA rfl
    obtain rfl : l = [] := List.eq_nil_of_length_eq_zero hn
    clear hn hr hA hnl
    go_enter Tryz.func95, Tryz.ntmps95
    go_wp2
    go_returns
    exact ⟨_, _, rfl, World.ownsRow_nil _ _ _ _, ext_refl _⟩
  | some a =>
    clear hn hr hA hnl
    go_enter Tryz.func95, Tryz.ntmps95
    go_wp2_with (at_builtin; go_loud (refine wpList_app rfl (.tmp 5) (.tmp 6) rowCo rfl _ 0 [] rfl (own_new (base := w.heap.size) (n := 0) rfl rfl (Nat.le_refl _) (by decide)) _ n (ens l) rfl (Src.rd Tryz.underlying22 _ n cap _ (by rw [ens_len, HN.out]) (HR.out.keep (Ext.new (ext_refl _) _)) (ens_one _) (fun h => by cases h)) (by have := HL.out; simp only [maxLen]; omega) (by have := HL.out; omega) (by simp) ?_; intro v' w4 hown4 hgrow hat hbel))
    go_returns
    obtain ⟨B, c, e5, _⟩ := Rd.owned hown4
    rw [Nat.zero_add] at e5
    subst e5
    exact ⟨B, c, rfl, by simpa using hown4, (Ext.new (ext_refl w) _).trans hbel⟩
theorem cloneX_any (l : List Cel) (A : Option Addr) (n cap : Nat) (w : World) (hn : l.length = n) (hr : Rd w A (cls l)) (hA : A = none → n = 0) (hnl : n ≤ 1000000000000) :
    Calls Tryz.prog 45 #[.slice A n cap] w fun e w' => ∃ B c, e = .returned (.slice B n c) ∧ w'.ownsRow w.heap.size 42 3 (.slice B n c) n (cls l) ∧ Ext w w' := by
  have HN := hid hn
  have HR := hid hr
  have HL := hid hnl
  have q := fun (w : World) (a : Option Addr) (n c n' c' : Nat) => Lib.run_eql_slice_nil w 45 42 a n c n' c' Tryz.underlying45
  have hnI : (n : Int) ≤ 1000000000000 := by omega
  cases A with
  | none =>
    obtain rfl : n = 0 := hA rfl
    obtain rfl : l = [] := List.eq_nil_of_length_eq_zero hn
    clear hn hr hA hnl
    go_enter Tryz.func45, Tryz.ntmps45
    go_wp2
    go_returns
    exact ⟨_, _, rfl, World.ownsRow_nil _ _ _ _, ext_refl _⟩
  | some a =>
    clear hn hr hA hnl
    go_enter Tryz.func45, Tryz.ntmps45
    go_wp2_with (at_builtin; go_loud (refine wpList_app rfl (.tmp 5) (.tmp 6) rowCe rfl _ 0 [] rfl (own_new (base := w.heap.size) (n := 0) rfl rfl (Nat.le_refl _) (by decide)) _ n (cls l) rfl (Src.rd Tryz.underlying45 _ n cap _ (by rw [cls_len, HN.out]) (HR.out.keep (Ext.new (ext_refl _) _)) (cls_one _) (fun h => by cases h)) (by have := HL.out; simp only [maxLen]; omega) (by have := HL.out; omega) (by simp) ?_; intro v' w4 hown4 hgrow hat hbel))
    go_returns
    obtain ⟨B, c, e5, _⟩ := Rd.owned hown4
    rw [Nat.zero_add] at e5
    subst e5
    exact ⟨B, c, rfl, by simpa using hown4, (Ext.new (ext_refl w) _).trans hbel⟩
/-- a row in memory of the call's own -/
def RwO (w : World) (base : Nat) (x : Rw) : Prop := w.ownsRow base 42 3 (.slice x.1.1 x.1.2.1 x.1.2.2) x.1.2.1 (cls x.2)
/-- two rows of different blocks -/
def RwD (x y : Rw) : Prop := ∀ a b, x.1.1 = some a → y.1.1 = some b → a.block ≠ b.block
/-- a table in memory of the call's own -/
def TbI (w : World) (base : Nat) (v : Value) (t : Tb.Tab) : Prop := ∃ A c B d L, v = .agg #[.slice A t.1.length c, .slice B t.2.length d] ∧ w.ownsRow base 39 2 (.slice A t.1.length c) t.1.length (ens t.1) ∧ w.ownsRow base 45 1 (.slice B t.2.length d) t.2.length (rws' L) ∧ L.map (·.2) = t.2 ∧ (∀ x ∈ L, RwO w base x) ∧ L.Pairwise RwD
/-- one that a block holds -/
def TbO (w : World) (base g : Nat) (t : Tb.Tab) : Prop := ∃ v0 v1, Blk w g 25 #[v0, v1] ∧ g < base ∧ TbI w base (.agg #[v0, v1]) t
theorem RwO.ok {w : World} {base : Nat} {x : Rw} (h : RwO w base x) : RwOk w x := by
  obtain ⟨r, z, c⟩ := own_rd h
  have := h.1
  rw [cls_len] at this
  exact ⟨by omega, c, z, r⟩
theorem RwO.ext {w w' : World} {base : Nat} {x : Rw} (h : RwO w base x) (hx : Ext w w') : RwO w' base x := own_ext h hx
theorem RwO.low {w : World} {base base' : Nat} {x : Rw} (h : RwO w base' x) (hb : base ≤ base') : RwO w base x := own_low' h hb
theorem RwO.lt {w : World} {base : Nat} {x : Rw} (h : RwO w base x) {a : Addr} (ha : x.1.1 = some a) : base ≤ a.block ∧ a.block < w.heap.size := own_block_rng h (by rw [ha]; rfl)
theorem RwD.new {w w' : World} {base : Nat} {x y : Rw} (h : RwO w base x) (k : RwO w' w.heap.size y) : RwD x y := fun a b ha hb => by
  have h1 := (h.lt ha).2
  have h2 := (k.lt hb).1
  omega
theorem TbI.V {w : World} {base : Nat} {v : Value} {t : Tb.Tab} (h : TbI w base v t) : TbV w v t := by
  obtain ⟨A, c, B, d, L, e, h1, h2, hL, hok, _⟩ := h
  obtain ⟨r1, z1, c1⟩ := own_rd h1
  obtain ⟨r2, z2, c2⟩ := own_rd h2
  exact ⟨A, c, B, d, L, e, r1, r2, hL, fun x hx => (hok x hx).ok, z1, z2, c1⟩
theorem TbI.ext {w w' : World} {base : Nat} {v : Value} {t : Tb.Tab} (h : TbI w base v t) (hx : Ext w w') : TbI w' base v t := by
  obtain ⟨A, c, B, d, L, e, h1, h2, hL, hok, hp⟩ := h
  exact ⟨A, c, B, d, L, e, own_ext h1 hx, own_ext h2 hx, hL, fun x hx' => (hok x hx').ext hx, hp⟩
theorem TbI.low {w : World} {base base' : Nat} {v : Value} {t : Tb.Tab} (h : TbI w base' v t) (hb : base ≤ base') : TbI w base v t := by
  obtain ⟨A, c, B, d, L, e, h1, h2, hL, hok, hp⟩ := h
  exact ⟨A, c, B, d, L, e, own_low' h1 hb, own_low' h2 hb, hL, fun x hx' => (hok x hx').low hb, hp⟩
theorem TbO.ext {w w' : World} {base g : Nat} {t : Tb.Tab} (h : TbO w base g t) (hx : Ext w w') : TbO w' base g t := by
  obtain ⟨v0, v1, hb, hg, hi⟩ := h
  exact ⟨v0, v1, hb.keep hx, hg, hi.ext hx⟩
end Go.Proofs.YtolhifnlahllnaaGreatDoor
end
section
namespace Hy.Tb
open Go
/-- a row -/
def rowAt (d : List (List Cel)) (i : Nat) : List Cel := d.map fun l => l.getD i Cnd.O
/-- a table, or none -/
def res (E : Nat) (t : Tab) : Tab := if E = 0 then t else ([], [])
theorem res_ok (t : Tab) : res 0 t = t := rfl
theorem res_no {E : Nat} (h : E ≠ 0) (t : Tab) : res E t = ([], []) := if_neg h
/-- is a condition True of a row? -/
@[irreducible] def tr (p : List Cnd) (d : List (List Cel)) (i : Nat) : Bool := decide (Cnd.val (Cnd.askf (rowAt d i)) Cnd.jn p = 2)
def trs (p : List Cnd) (d : List (List Cel)) (n : Nat) : List Bool := (List.range n).map (tr p d)
theorem trs_succ (p : List Cnd) (d : List (List Cel)) (n : Nat) : trs p d (n + 1) = trs p d n ++ [tr p d n] := by unfold trs; rw [List.range_succ, List.map_append]; rfl
theorem trs_len (p : List Cnd) (d : List (List Cel)) (n : Nat) : (trs p d n).length = n := by unfold trs; simp
theorem trs_get (p : List Cnd) (d : List (List Cel)) (n i : Nat) (h : i < n) : (trs p d n)[i]'(by rw [trs_len]; exact h) = tr p d i := by unfold trs; simp
/-- the places that are kept, of a column -/
def kc (f : Nat → Bool) (n : Nat) (l : List Cel) : List Cel := ((List.range n).filter f).map fun i => l.getD i Cnd.O
theorem kc_zero (f : Nat → Bool) (l : List Cel) : kc f 0 l = [] := rfl
theorem kc_yes {f : Nat → Bool} {n : Nat} {l : List Cel} (hn : n < l.length) (h : f n = true) : kc f (n + 1) l = kc f n l ++ [l[n]] := by
  unfold kc; rw [List.range_succ, List.filter_append, List.map_append]; simp [h, hn]
theorem kc_no {f : Nat → Bool} {n : Nat} {l : List Cel} (h : f n = false) : kc f (n + 1) l = kc f n l := by
  unfold kc; rw [List.range_succ, List.filter_append, List.map_append]; simp [h]
theorem kc_le (f : Nat → Bool) (n : Nat) (l : List Cel) : (kc f n l).length ≤ n := by
  unfold kc; rw [List.length_map]; have := List.length_filter_le f (List.range n); simpa using this
/-- kinds of columns -/
def knds (c : List Ent) : List Int := c.map (·.2)
theorem knds_len (c : List Ent) : (knds c).length = c.length := List.length_map _
/-- Keep -/
@[irreducible] def keepE (t : Tab) (p : List Cnd) : Nat := if tbck t ≠ 0 then tbck t else Cnd.chk (knds t.1) p
def keepT (t : Tab) (p : List Cnd) : Tab := (t.1, t.2.map (kc (tr p t.2) (many t)))
/-- Slice -/
@[irreducible] def sliceE (t : Tab) (a b : Int) : Nat := if tbck t ≠ 0 then tbck t else if a < 0 ∨ b < 0 then 3 else 0
def sliceT (t : Tab) (a b : Int) : Tab := (t.1, t.2.map fun l => (l.drop a.toNat).take b.toNat)
/-- Append -/
@[irreducible] def appE (t s : Tab) : Nat := if tbck t ≠ 0 then tbck t else if tbck s ≠ 0 then tbck s else if t.1 ≠ s.1 then 7 else if 128 < many t + many s then 2 else 0
def appT (t s : Tab) : Tab := (t.1, List.zipWith (· ++ ·) t.2 s.2)
/-- Add -/
@[irreducible] def addE (t : Tab) (c : Ent) (x : Cel) : Nat := if tbck t ≠ 0 then tbck t else if colck c t.1 ≠ 0 then colck c t.1 else if t.1.length = 6 then 2 else Cel.alone c.2 x
def addT (t : Tab) (c : Ent) (x : Cel) : Tab := (t.1 ++ [c], t.2 ++ [List.replicate (many t) x])
/-- the place of a name -/
def at0 (t : Tab) (s : ByteArray) : Nat := (ixc t.1 s 0).toNat
/-- Drop -/
@[irreducible] def dropE (t : Tab) (s : ByteArray) : Nat := if tbck t ≠ 0 then tbck t else if ixc t.1 s 0 < 0 then 5 else 0
def dropT (t : Tab) (s : ByteArray) : Tab := (t.1.eraseIdx (at0 t s), t.2.eraseIdx (at0 t s))
/-- Rename -/
@[irreducible] def renE (t : Tab) (s n : ByteArray) : Nat := if tbck t ≠ 0 then tbck t else if ixc t.1 s 0 < 0 then 5 else if Nm.nm n.data.toList = false then 1 else if 0 ≤ ixc t.1 n 0 ∧ ixc t.1 n 0 ≠ ixc t.1 s 0 then 6 else 0
def renT (t : Tab) (s n : ByteArray) : Tab := (t.1.modify (at0 t s) (fun c => (n, c.2)), t.2)
/-- Redact -/
@[irreducible] def redE (t : Tab) (s : ByteArray) (p : List Cnd) : Nat := if tbck t ≠ 0 then tbck t else if ixc t.1 s 0 < 0 then 5 else Cnd.chk (knds t.1) p
/-- a column, of which cells are gone -/
def rc (f : Nat → Bool) (n : Nat) (l : List Cel) : List Cel := (List.range l.length).map fun i => if i < n ∧ f i = true then Cnd.O else l.getD i Cnd.O
def redT (t : Tab) (s : ByteArray) (p : List Cnd) : Tab := (t.1, t.2.modify (at0 t s) (rc (tr p t.2) (many t)))
/-- Project -/
def prj (c : List Ent) : List ByteArray → List ByteArray → Nat
  | _, [] => 0
  | pre, n :: r => if ixc c n 0 < 0 then 5 else if ∃ m ∈ pre, m = n then 6 else prj c (pre ++ [n]) r
@[irreducible] def projE (t : Tab) (ns : List ByteArray) : Nat := if tbck t ≠ 0 then tbck t else prj t.1 [] ns
def projT (t : Tab) (ns : List ByteArray) : Tab := (ns.map fun n => t.1.getD (at0 t n) (ByteArray.empty, 0), ns.map fun n => t.2.getD (at0 t n) [])
theorem prj_here {c : List Ent} {l : List ByteArray} {k : Nat} (h : k < l.length) : prj c (l.take k) (l.drop k) = if ixc c l[k] 0 < 0 then 5 else if ∃ m ∈ l.take k, m = l[k] then 6 else prj c (l.take (k + 1)) (l.drop (k + 1)) := by
  rw [List.drop_eq_getElem_cons h, List.take_succ_eq_append_getElem h]; rfl
end Hy.Tb
end
section
namespace Hy.Tb
theorem row_succ {d : List (List Cel)} {i k : Nat} (hk : k < d.length) (hi : i < d[k].length) : rowAt (d.take (k + 1)) i = rowAt (d.take k) i ++ [d[k][i]] := by
  unfold rowAt
  rw [List.take_succ_eq_append_getElem hk, List.map_append]
  simp [List.getD_eq_getElem?_getD, hi]
theorem row_len (d : List (List Cel)) (i : Nat) : (rowAt d i).length = d.length := List.length_map _
end Hy.Tb
namespace Go.Proofs.YtolhifnlahllnaaGreatDoor
open Go.RowKit Hy
set_option maxHeartbeats 1600000 in
set_option maxRecDepth 100000 in
theorem rawRow_any (t : Tb.Tab) (i : Nat) (v : Value) (w : World) (hv : TbV w v t) (hm : t.2.length ≤ 1000) (hi : ∀ l ∈ t.2, i < l.length) (hb : ∀ l ∈ t.2, l.length ≤ 1000) :
    Calls Tryz.prog 59 #[v, .int .i64 (i : Int)] w fun e w' => ∃ v', e = .returned v' ∧ w'.ownsRow w.heap.size 42 3 v' t.2.length (cls (Tb.rowAt t.2 i)) ∧ Ext w w' := by
  obtain ⟨A, c, B, d, L, rfl, h1, h2, hL, hok, z1, z2, hc⟩ := hv
  obtain ⟨n, hn⟩ : ∃ n, n = t.1.length := ⟨_, rfl⟩
  obtain ⟨m, hm'⟩ : ∃ n, n = t.2.length := ⟨_, rfl⟩
  rw [← hn, ← hm']
  have HM := hid hm'; have HLM := hid hL; have HOK := hid hok; have HB := hid h2; have HI := hid hi; have HBD := hid hb
  have hmI : (m : Int) ≤ 1000 := by omega
  have HML := hid (show m ≤ 1000 by omega)
  have XN := hid (Ext.new (ext_refl w) (.cells #[.slice A n c, .slice B m d] 25))
  clear h1 h2 hL hok z1 z2 hc hn hm hm' hi hb
  go_enter Tryz.func59, Tryz.ntmps59
  go_wp2
  go_loopw [5, 7, 11] (fun o _ ii wr => ∃ k : Nat, k ≤ m ∧ ii = .int .i64 k ∧ Hid (wr.ownsRow w.heap.size 42 3 o k (cls (Tb.rowAt (t.2.take k) i))) ∧ Hid (Ext w wr)) (fun _ _ ii _ => m - (intOf ii).toNat)
  case atStart => exact ⟨0, Nat.zero_le _, rfl, hid (World.ownsRow_nil _ _ _ _), XN⟩
  case round =>
    obtain ⟨k, hk, rfl, HO, HX⟩ := hrel
    by_cases hlt : k < m
    · have hkd : k < t.2.length := by rw [← HM.out]; exact hlt
      have hLl : L.length = t.2.length := by rw [← HLM.out, List.length_map]
      have hkL : k < L.length := by rw [hLl]; exact hkd
      obtain ⟨b2, o2, e2, l2, c2⟩ := HB.out.rows k hkL
      have r0 := ext_cell HX.out (c2 k hkL)
      have hdk : L[k].2 = t.2[k] := by simp [← HLM.out]
      obtain ⟨w1, w2, w3, w4⟩ := HOK.out _ (List.getElem_mem hkL)
      have hil := HI.out _ (List.getElem_mem hkd)
      have hbl := HBD.out _ (List.getElem_mem hkd)
      obtain ⟨b3, o3, e3, l3, c3⟩ := w4.cels i (by rw [hdk]; exact hil)
      obtain ⟨q0, q1, q2⟩ := c3 i (by rw [hdk]; exact hil)
      replace q0 := ext_cell HX.out q0
      replace q1 := ext_cell HX.out q1
      replace q2 := ext_cell HX.out q2
      have HSN := hid (Tb.row_succ hkd hil)
      have hiI : (i : Int) < (L[k].1.2.1 : Int) := by rw [← w1, hdk]; omega
      have hxx : L[k].2[i]'(by rw [hdk]; exact hil) = t.2[k][i] := by simp [hdk]
      rw [hxx] at q0 q1 q2
      have HSW := hid HX.out.size
      have hlI : (L[k].1.2.1 : Int) ≤ 1000 := by rw [← w1, hdk]; omega
      clear c2 c3 w1 w2 w3 w4 hdk l2 l3 hxx hbl
      generalize t.2[k][i] = x at *
      generalize L[k].1.1 = Ak at *
      generalize L[k].1.2.1 = lk at *
      generalize L[k].1.2.2 = ck at *
      have he2 := hid e2; have he3 := hid e3
      clear hkd hLl hkL hil e2 e3
      have e2 := he2.out
      have e3 := he3.out
      subst e2 e3
      obtain ⟨y, z, s⟩ := x
      simp only at q0 q1 q2
      obtain ⟨K0, hK0⟩ : ∃ K, K = Tb.rowAt (t.2.take k) i := ⟨_, rfl⟩
      rw [← hK0] at HO HSN
      clear hK0
      go_wp2_with (at_builtin; go_loud (refine wpList_app rfl (.tmp 15) (.tmp 20) rowCe rfl _ k (cls K0) rfl (own_ext HO.out (Ext.new (ext_refl _) _)) _ 1 (cls [(y, z, s)]) rfl (Src.rd Tryz.underlying45 _ 1 1 _ rfl (rd_lit rfl rfl) (cls_one _) (fun h => by cases h)) (by have := HML.out; simp only [maxLen] at *; omega) (by have := HML.out; omega) (by have := HSW.out; simp; omega) ?_; intro v' w9 hown9 hgrow hat hbel; have HO9 := hid hown9; have XB9 := hid (Below.trans (Below.mono (Ext.new (ext_refl wr) (.cells #[.int .i64 y, .int .u64 (z : Nat), .string s] 42)) HSW.out) hbel); clear hown9 hgrow hat hbel))
      go_roundw
      case rel => exact ⟨k + 1, by omega, by go_num, by rw [HSN.out, cls_app]; exact HO9, hid (Below.trans HX.out XB9.out)⟩
      case measure => simp [intOf]; omega
    · obtain rfl : m = k := by omega
      have HL : t.2.take m = t.2 := List.take_of_length_le (by rw [← HM.out]; exact Nat.le_refl _)
      rw [HL] at HO
      clear HL
      go_wp2
      go_returns
      exact ⟨_, rfl, HO.out, HX.out⟩
/-- what is wrong with a place of a row -/
def rowE (t : Tb.Tab) (x : Int) : Nat := if Tb.tbck t ≠ 0 then Tb.tbck t else if x < 0 ∨ (Tb.many t : Int) ≤ x then 3 else 0
def rowL (t : Tb.Tab) (x : Int) : List Cel := if rowE t x = 0 then Tb.rowAt t.2 x.toNat else []
set_option maxHeartbeats 3200000 in
set_option maxRecDepth 100000 in
theorem row_any (t : Tb.Tab) (x : Int) (v : Value) (w : World) (hv : TbV w v t) (hb : TbB t) (hR : Tb.tbck t = 0 → t.2.length ≤ 6 ∧ (∀ l ∈ t.2, l.length = Tb.many t) ∧ Tb.many t ≤ 128) :
    Calls Tryz.prog 19 #[v, .int .i64 x] w fun e w' => ∃ v', e = .returned (.tuple #[v', .int .i64 (rowE t x : Nat)]) ∧ w'.ownsRow w.heap.size 42 3 v' (rowL t x).length (cls (rowL t x)) ∧ Ext w w' := by
  have HV := hid hv
  have HB := hid hb
  obtain ⟨A, n, c, B, m, d, rfl⟩ := hv.shape
  have HC := hid (fun wx (hx : Ext w wx) => tcheck_any t _ wx (HV.out.keep hx) HB.out)
  have HY := hid (fun wx (hx : Ext w wx) => many_any t _ wx (HV.out.keep hx) HB.out)
  have XN := hid (Ext.new (ext_refl w) (.cells #[.slice A n c, .slice B m d] 25))
  have BN := hid (Blk.new w 25 #[.slice A n c, .slice B m d])
  by_cases h0 : Tb.tbck t = 0
  · obtain ⟨h6, hrow, h128⟩ := hR h0
    rw [h0] at HC
    by_cases hx0 : x < 0
    · have HV1 := hid (show rowE t x = 3 by unfold rowE; rw [if_neg (by simp [h0]), if_pos (.inl hx0)])
      have HV2 := hid (show rowL t x = [] by unfold rowL; rw [HV1.out]; rfl)
      clear hv hb hR h0 h6 hrow h128 HY
      go_enter Tryz.func19, Tryz.ntmps19
      go_wp2_with fail
      refine Calls.mono (HC.out _ XN.out) ?_
      rintro e w1 ⟨rfl, hx⟩
      have X := hid (Ext.then XN.out hx)
      clear hx
      go_wp2
      go_returns
      exact ⟨_, by rw [HV1.out]; rfl, by rw [HV2.out]; exact World.ownsRow_nil _ _ _ _, X.out⟩
    · obtain ⟨i, rfl⟩ : ∃ i : Nat, x = i := ⟨x.toNat, by omega⟩
      obtain ⟨M, hM⟩ : ∃ M, M = Tb.many t := ⟨_, rfl⟩
      by_cases hlt : i < M
      · have HV1 := hid (show rowE t i = 0 by unfold rowE; rw [if_neg (by simp [h0]), if_neg (by omega)])
        have HV2 := hid (show rowL t i = Tb.rowAt t.2 i by unfold rowL; rw [if_pos HV1.out]; rfl)
        have HRR := hid (fun wx (hx : Ext w wx) => rawRow_any t i _ wx (HV.out.keep hx) (by omega) (fun l hl => by rw [hrow l hl, ← hM]; exact hlt) (fun l hl => by rw [hrow l hl]; omega))
        have HRL := hid (Tb.row_len t.2 i)
        have hI : (i : Int) < (M : Int) := by omega
        rw [← hM] at HY
        clear hv hb hR h0 h6 hrow h128 hM hx0
        go_enter Tryz.func19, Tryz.ntmps19
        go_wp2_with fail
        refine Calls.mono (HC.out _ XN.out) ?_
        rintro e w1 ⟨rfl, hx⟩
        have X := hid (Ext.then XN.out hx)
        have B1 := hid (BN.out.keep hx)
        clear hx
        have p0 := B1.out.cell 0
        have p1 := B1.out.cell 1
        go_wp2_with fail
        refine Calls.mono (HY.out _ X.out) ?_
        rintro e w2 ⟨rfl, hx⟩
        replace X := hid (X.out.then hx)
        have B2 := hid (B1.out.keep hx)
        clear hx p0 p1
        have p0 := B2.out.cell 0
        have p1 := B2.out.cell 1
        go_wp2_with fail
        have XS := hid X.out.size
        refine Calls.mono (HRR.out _ X.out) ?_
        rintro e w3 ⟨v', rfl, ho, hx⟩
        replace X := hid (X.out.then hx)
        have HO := hid (own_low' ho XS.out)
        clear hx ho p0 p1
        go_wp2
        go_returns
        exact ⟨_, by rw [HV1.out]; rfl, by rw [HV2.out, HRL.out]; exact HO.out, X.out⟩
      · have HV1 := hid (show rowE t i = 3 by unfold rowE; rw [if_neg (by simp [h0]), if_pos (.inr (by omega))])
        have HV2 := hid (show rowL t i = [] by unfold rowL; rw [HV1.out]; rfl)
        have hI : (M : Int) ≤ (i : Int) := by omega
        rw [← hM] at HY
        clear hv hb hR h0 h6 hrow h128 hM hx0
        go_enter Tryz.func19, Tryz.ntmps19
        go_wp2_with fail
        refine Calls.mono (HC.out _ XN.out) ?_
        rintro e w1 ⟨rfl, hx⟩
        have X := hid (Ext.then XN.out hx)
        have B1 := hid (BN.out.keep hx)
        clear hx
        have p0 := B1.out.cell 0
        have p1 := B1.out.cell 1
        go_wp2_with fail
        refine Calls.mono (HY.out _ X.out) ?_
        rintro e w2 ⟨rfl, hx⟩
        replace X := hid (X.out.then hx)
        clear hx p0 p1
        go_wp2
        go_returns
        exact ⟨_, by rw [HV1.out]; rfl, by rw [HV2.out]; exact World.ownsRow_nil _ _ _ _, X.out⟩
  · obtain ⟨E, hE⟩ : ∃ E, E = Tb.tbck t := ⟨_, rfl⟩
    have HV1 := hid (show rowE t x = E by unfold rowE; rw [if_pos h0, hE])
    rw [← hE] at HC h0
    have HV2 := hid (show rowL t x = [] by unfold rowL; rw [HV1.out, if_neg h0])
    have e1 : ((E : Int) == 0) = false := beq_eq_false_iff_ne.2 (by omega)
    have e2 : ((E : Int) != 0) = true := by simp; omega
    clear hv hb hR hE h0 HY
    go_enter Tryz.func19, Tryz.ntmps19
    go_wp2_with fail
    refine Calls.mono (HC.out _ XN.out) ?_
    rintro e w1 ⟨rfl, hx⟩
    have X := hid (Ext.then XN.out hx)
    clear hx
    go_wp2
    go_returns
    exact ⟨_, by rw [HV1.out]; rfl, by rw [HV2.out]; exact World.ownsRow_nil _ _ _ _, X.out⟩
end Go.Proofs.YtolhifnlahllnaaGreatDoor
end
section
namespace Hy
open Go
theorem i64s_app (l m : List Int) : i64s (l ++ m) = i64s l ++ i64s m := List.map_append
theorem bls_app' (l m : List Bool) : bls (l ++ m) = bls l ++ bls m := List.map_append
theorem bls_one' (l : List Bool) : ∀ u ∈ bls l, u.oneCell' = true := fun u hu => by
  obtain ⟨c, _, rfl⟩ := List.mem_map.1 hu; rfl
end Hy
namespace Hy.Tb
theorem knds_succ {c : List Ent} {k : Nat} (hk : k < c.length) : knds (c.take (k + 1)) = knds (c.take k) ++ [c[k].2] := by
  unfold knds; rw [List.take_succ_eq_append_getElem hk, List.map_append]; rfl
end Hy.Tb
namespace Go.Proofs.YtolhifnlahllnaaGreatDoor
open Go.RowKit Hy
theorem rowBo : RowT Tryz.prog 66 4 1 1 := RowT.mk' (z := .bool false) Tryz.underlying66 (by kernel_rfl) rfl (by decide)
set_option maxHeartbeats 1600000 in
set_option maxRecDepth 100000 in
theorem kinds_any (l : List Ent) (A : Option Addr) (n cap : Nat) (w : World) (hn : l.length = n) (hr : Rd w A (ens l)) (hnl : n ≤ 1000) :
    Calls Tryz.prog 37 #[.slice A n cap] w fun e w' => ∃ v, e = .returned v ∧ w'.ownsRow w.heap.size 3 1 v n (i64s (Tb.knds l)) ∧ Ext w w' := by
  have HN := hid hn
  have HA := hid hr
  have HNL := hid hnl
  have hnI : (n : Int) ≤ 1000 := by omega
  clear hn hr hnl
  go_enter Tryz.func37, Tryz.ntmps37
  go_wp2
  go_loopw [3, 8] (fun vn c wr => ∃ k : Nat, k ≤ n ∧ c = .int .i64 k ∧ Hid (wr.ownsRow w.heap.size 3 1 vn k (i64s (Tb.knds (l.take k)))) ∧ Hid (Ext w wr)) (fun _ c _ => n - (intOf c).toNat)
  case atStart => exact ⟨0, Nat.zero_le _, rfl, hid (World.ownsRow_nil _ _ _ _), hid (ext_refl _)⟩
  case round =>
    obtain ⟨k, hk, rfl, HO, HX⟩ := hrel
    by_cases hlt : k < n
    · have hka : k < l.length := by rw [HN.out]; exact hlt
      obtain ⟨b1, o1, e1, l1, c1⟩ := HA.out.ents k hka
      subst e1
      have d0 := ext_cell HX.out (c1 k hka).1
      have d1 := ext_cell HX.out (c1 k hka).2
      have HSN := hid (Tb.knds_succ hka)
      have HSW := hid HX.out.size
      obtain ⟨K0, hK0⟩ : ∃ K, K = Tb.knds (l.take k) := ⟨_, rfl⟩
      rw [← hK0] at HO HSN
      clear c1 l1 hK0
      generalize l[k] = x at *
      obtain ⟨t, y⟩ := x
      simp only at d0 d1 HSN
      clear hka
      go_wp2_with (at_builtin; go_loud (refine wpList_app rfl (.tmp 12) (.tmp 15) rowI rfl _ k (i64s K0) rfl (own_ext HO.out (Ext.new (Ext.new (ext_refl _) _) _)) _ 1 (i64s [y]) rfl (Src.rd Tryz.underlying60 _ 1 1 _ rfl (rd_lit (by simp) rfl) (i64s_one _) (fun h => by cases h)) (by have := HNL.out; simp only [maxLen] at *; omega) (by have := HNL.out; omega) (by have := HSW.out; simp; omega) ?_; intro v' w9 hown9 hgrow hat hbel; have HO9 := hid hown9; have XB9 := hid (Below.trans (Below.mono (Ext.new (Ext.new (ext_refl wr) (.cells #[.string t, .int .i64 y] 39)) (.cells #[.int .i64 y] 3)) HSW.out) hbel); clear hown9 hgrow hat hbel))
      go_roundw
      case rel => exact ⟨k + 1, by omega, by go_num, by rw [HSN.out, i64s_app]; exact HO9, hid (Below.trans HX.out XB9.out)⟩
      case measure => simp [intOf]; omega
    · obtain rfl : n = k := by omega
      have HL : l.take n = l := List.take_of_length_le (by rw [HN.out]; exact Nat.le_refl _)
      rw [HL] at HO
      clear HL
      go_wp2
      go_returns
      exact ⟨_, rfl, HO.out, HX.out⟩
set_option maxHeartbeats 3200000 in
set_option maxRecDepth 100000 in
/-- the rows of which a condition is True -/
theorem true_any (t : Tb.Tab) (p : List Cnd) (ks : List Int) (v : Value) (P : Option Addr) (np pcap : Nat) (w : World) (hv : TbV w v t) (hb : TbB t) (hm : t.2.length ≤ 6) (hrow : ∀ l ∈ t.2, l.length = Tb.many t) (h128 : Tb.many t ≤ 128)
    (hck : Cnd.chk ks p = 0) (hkl : ks.length = t.2.length) (hpn : p.length = np) (hp : Rd w P (cns p)) :
    Calls Tryz.prog 38 #[v, .slice P np pcap] w fun e w' => ∃ v', e = .returned v' ∧ w'.ownsRow w.heap.size 4 1 v' (Tb.many t) (bls (Tb.trs p t.2 (Tb.many t))) ∧ Ext w w' := by
  have HV := hid hv
  obtain ⟨A, n, c, B, m, d, rfl⟩ := hv.shape
  obtain ⟨M, hM⟩ : ∃ M, M = Tb.many t := ⟨_, rfl⟩
  have XN := hid (Ext.new (ext_refl w) (.cells #[.slice A n c, .slice B m d] 25))
  have BN := hid (Blk.new w 25 #[.slice A n c, .slice B m d])
  have HY := hid (fun wx (hx : Ext w wx) => many_any t _ wx (HV.out.keep hx) hb)
  have HRR := hid (fun (i : Nat) wx (hx : Ext w wx) (hi : i < M) => rawRow_any t i _ wx (HV.out.keep hx) (by omega) (fun l hl => by rw [hrow l hl, ← hM]; exact hi) (fun l hl => by rw [hrow l hl]; omega))
  have HRW := hid (fun (i : Nat) (R : Option Addr) (rc : Nat) wx (hx : Ext w wx) (hr : Rd wx R (cls (Tb.rowAt t.2 i))) => raw_any' ks p (Tb.rowAt t.2 i) P R np pcap t.2.length rc wx hck hpn (hp.keep hx) (Tb.row_len _ _) hkl hr)
  have HSC := hid (fun i => Tb.trs_succ p t.2 i)
  have HTR := hid (fun i => show (Cnd.val (Cnd.askf (Tb.rowAt t.2 i)) Cnd.jn p = 2) = (Tb.tr p t.2 i = true) by unfold Tb.tr; simp)
  obtain ⟨q, hq⟩ : ∃ q, q = t.2.length := ⟨_, rfl⟩
  rw [← hM] at HY h128 ⊢
  rw [← hq] at HRR HRW
  have hMI : (M : Int) ≤ 128 := by omega
  have HML := hid h128
  clear hv hb hm hrow h128 hck hkl hpn hp hM hq
  go_enter Tryz.func38, Tryz.ntmps38
  go_wp2_with fail
  refine Calls.mono (HY.out _ XN.out) ?_
  rintro e w1 ⟨rfl, hx⟩
  have X := hid (Ext.then XN.out hx)
  have B1 := hid (BN.out.keep hx)
  clear hx
  go_wp2
  go_loopw [5, 6, 9] (fun o _ ii wr => ∃ k : Nat, k ≤ M ∧ ii = .int .i64 k ∧ Hid (wr.ownsRow w1.heap.size 4 1 o k (bls (Tb.trs p t.2 k))) ∧ Hid (Ext w1 wr)) (fun _ _ ii _ => M - (intOf ii).toNat)
  case atStart => exact ⟨0, Nat.zero_le _, rfl, hid (World.ownsRow_nil _ _ _ _), hid (ext_refl _)⟩
  case round =>
    obtain ⟨k, hk, rfl, HO, HX⟩ := hrel
    by_cases hlt : k < M
    · have hlI : (k : Int) < (M : Int) := by omega
      have XA := hid (X.out.then HX.out)
      have B2 := B1.out.keep HX.out
      have p0 := B2.cell 0
      have p1 := B2.cell 1
      have HLT := hid hlt
      clear B2
      go_wp2_with fail
      refine Calls.mono (HRR.out k _ XA.out HLT.out) ?_
      rintro e w2 ⟨vr, rfl, ho, hx⟩
      obtain ⟨R, rc, rfl, hrd, _⟩ := Rd.owned ho
      have X2 := hid hx
      have HRD := hid hrd
      clear hx ho hrd p0 p1
      go_wp2_with fail
      refine Calls.mono (HRW.out k R rc _ (XA.out.then X2.out) HRD.out) ?_
      rintro e w3 ⟨rfl, hx⟩
      have X3 := hid (X2.out.then hx)
      clear hx
      have X1W := hid (HX.out.then X3.out)
      have HSW := hid X1W.out.size
      have HO3 := hid (own_ext HO.out X3.out)
      have HSN := hid (HSC.out k)
      have HT := hid (HTR.out k)
      obtain ⟨K0, hK0⟩ : ∃ K, K = Tb.trs p t.2 k := ⟨_, rfl⟩
      rw [← hK0] at HO3 HSN
      have hbe : ((Cnd.val (Cnd.askf (Tb.rowAt t.2 k)) Cnd.jn p : Int) == 2) = Tb.tr p t.2 k := by
        have := HT.out
        rw [Bool.eq_iff_iff, ← this]
        rw [beq_iff_eq]; omega
      generalize Cnd.val (Cnd.askf (Tb.rowAt t.2 k)) Cnd.jn p = z at *
      generalize Tb.tr p t.2 k = bb at *
      clear hK0 HT
      go_wp2_with (at_builtin; go_loud (refine wpList_app rfl (.tmp 12) (.tmp 19) rowBo rfl _ k (bls K0) rfl (own_ext HO3.out (Ext.new (ext_refl _) _)) _ 1 (bls [bb]) rfl (Src.rd Tryz.underlying66 _ 1 1 _ rfl (rd_lit rfl rfl) (bls_one' _) (fun h => by cases h)) (by have := HML.out; simp only [maxLen] at *; omega) (by have := HML.out; omega) (by have := HSW.out; simp; omega) ?_; intro v' w9 hown9 hgrow hat hbel; have HO9 := hid hown9; have XB9 := hid (Below.trans (Ext.new X1W.out (.cells #[.bool bb] 4)) hbel); clear hown9 hgrow hat hbel))
      go_roundw
      case rel => exact ⟨k + 1, by omega, by go_num, by rw [HSN.out, bls_app']; exact HO9, XB9⟩
      case measure => simp [intOf]; omega
    · obtain rfl : M = k := by omega
      go_wp2
      go_returns
      exact ⟨_, rfl, own_low' HO.out X.out.size, X.out.then HX.out⟩
end Go.Proofs.YtolhifnlahllnaaGreatDoor
end
section
namespace Hy
open Go
theorem rws_app (l m : List Rw) : rws' (l ++ m) = rws' l ++ rws' m := by simp [rws']
end Hy
namespace Go.Proofs.YtolhifnlahllnaaGreatDoor
open Go.RowKit Hy
theorem RwO.kept {w w' : World} {base : Nat} {x : Rw} {row : Option Nat} (h : RwO w base x) (hg : w.grownBy w' row) (hne : (x.1.1.map (·.block)) = none ∨ (x.1.1.map (·.block)) ≠ row) : RwO w' base x :=
  World.ownsRow.kept h hg (by
    rcases hne with h1 | h1
    · left; cases hx : x.1.1 with
      | none => rfl
      | some a => rw [hx] at h1; cases h1
    · cases hx : x.1.1 with
      | none => left; rfl
      | some a => right; rw [hx] at h1; exact h1)
set_option maxHeartbeats 3200000 in
set_option maxRecDepth 100000 in
theorem town_any (t : Tb.Tab) (v : Value) (w : World) (hv : TbV w v t) (h6 : t.1.length ≤ 1000) (h6' : t.2.length ≤ 1000) (hb : ∀ l ∈ t.2, l.length ≤ 1000) :
    Calls Tryz.prog 79 #[v] w fun e w' => ∃ v', e = .returned v' ∧ TbI w' w.heap.size v' t ∧ Ext w w' := by
  obtain ⟨A, c, B, d, L, rfl, h1, h2, hL, hok, z1, z2, hc⟩ := hv
  obtain ⟨n, hn⟩ : ∃ n, n = t.1.length := ⟨_, rfl⟩
  obtain ⟨m, hm'⟩ : ∃ n, n = t.2.length := ⟨_, rfl⟩
  have HC1 := hid (fun wx (hx : Ext w wx) => cloneC_any t.1 A n c wx hn.symm (h1.keep hx) (by rw [hn]; exact z1) (by omega))
  have hLl : L.length = t.2.length := by rw [← hL, List.length_map]
  have HC2 := hid (fun k (hk : k < L.length) wx (hx : Ext w wx) => cloneX_any L[k].2 L[k].1.1 L[k].1.2.1 L[k].1.2.2 wx (hok _ (List.getElem_mem hk)).1 ((hok _ (List.getElem_mem hk)).2.2.2.keep hx) (hok _ (List.getElem_mem hk)).2.2.1 (by
    have e1 := (hok _ (List.getElem_mem hk)).1
    have e2 := hb L[k].2 (by rw [← hL]; exact List.mem_map_of_mem (List.getElem_mem hk))
    omega))
  rw [← hn, ← hm']
  have HN := hid hn; have HM := hid hm'; have HLM := hid hL; have HB := hid h2; have HLL := hid hLl
  have hmI : (m : Int) ≤ 1000 := by omega
  have HML := hid (show m ≤ 1000 by omega)
  have XN := hid (Ext.new (Ext.new (ext_refl w) (.cells #[.slice A n c, .slice B m d] 25)) (.cells #[.slice none 0 0, .slice none 0 0] 25))
  have BN := hid ((Blk.new w 25 #[.slice A n c, .slice B m d]).alloc (.cells #[.slice none 0 0, .slice none 0 0] 25))
  have BR := hid (Blk.new (w.alloc (.cells #[.slice A n c, .slice B m d] 25)) 25 #[.slice none 0 0, .slice none 0 0])
  clear h1 h2 hL hok z1 z2 hc hn hm' hb hLl h6 h6'
  go_enter Tryz.func79, Tryz.ntmps79
  go_wp2_with fail
  refine Calls.mono (HC1.out _ XN.out) ?_
  rintro e w1 ⟨A1, c1, rfl, o1, hx⟩
  have X1 := hid (Ext.then XN.out hx)
  have B1 := hid (BN.out.keep hx)
  have R1 := hid (BR.out.keep hx)
  have O1 := hid (own_low' o1 XN.out.size)
  clear hx o1 XN BN BR
  have p0 := B1.out.cell 0
  have p1 := B1.out.cell 1
  have lg := B1.out.lt
  go_wp2
  have F0 := hid (Blk.new w1 25 #[.slice A1 n c1, .slice none 0 0])
  have E0 := hid (Ext.new (ext_refl w1) (.cells #[.slice A1 n c1, .slice none 0 0] 25))
  go_loopw [5, 13] (fun _ ii wr => ∃ k : Nat, k ≤ m ∧ ii = .int .i64 k ∧ ∃ B' d' L', Hid (Blk wr w1.heap.size 25 #[.slice A1 n c1, .slice B' k d']) ∧ Hid (wr.ownsRow w1.heap.size 45 1 (.slice B' k d') k (rws' L')) ∧ Hid (L'.map (·.2) = t.2.take k) ∧ Hid (∀ x ∈ L', RwO wr w1.heap.size x) ∧ Hid (L'.Pairwise RwD) ∧ Hid (Ext w1 wr)) (fun _ ii _ => m - (intOf ii).toNat)
  case atStart => exact ⟨0, Nat.zero_le _, rfl, none, 0, [], F0, hid (World.ownsRow_nil _ _ _ _), hid rfl, hid (fun x hx => by cases hx), hid List.Pairwise.nil, E0⟩
  case round =>
    obtain ⟨k, hk, rfl, B', d', L', HF, HO, HL', HR', HP', HX⟩ := hrel
    by_cases hlt : k < m
    · have hkL : k < L.length := by rw [HLL.out, ← HM.out]; exact hlt
      have hkd : k < t.2.length := by rw [← HM.out]; exact hlt
      obtain ⟨b2, o2, e2, l2, c2⟩ := HB.out.rows k hkL
      have XW := hid (X1.out.then HX.out)
      have r0 := ext_cell XW.out (c2 k hkL)
      have hdk : L[k].2 = t.2[k] := by simp [← HLM.out]
      have HCK := hid (HC2.out k hkL)
      have HTK := hid (show t.2.take (k + 1) = t.2.take k ++ [L[k].2] by rw [List.take_succ_eq_append_getElem hkd, hdk])
      generalize L[k].2 = lc at *
      generalize L[k].1.1 = Ak at *
      generalize L[k].1.2.1 = lk at *
      generalize L[k].1.2.2 = ck at *
      have he2 := hid e2
      clear c2 l2 hdk hkL hkd e2 p0 p1
      have e2 := he2.out
      subst e2
      have hltI : (k : Int) < (m : Int) := by omega
      go_upto_region 5 with fail
      have v1 := HF.out.cell 1
      have v1r := cell_regrown v1
      refine wp_region_late [5, 7] [6] [(0, true), (1, true), (2, true), (3, false), (4, false), (5, false), (6, true), (7, false)] (by kernel_rfl) (by kernel_rfl) (fun _ _ _ _ _ h => h) (by kernel_rfl) (by rfl) ?_
      simp only [List.filterMap_cons, List.filterMap_nil, List.getElem?_toArray, List.getElem?_cons_zero, List.getElem?_cons_succ, Option.map_some, List.contains_cons, List.contains_nil, Nat.reduceBEq, Bool.or_false, Bool.or_true]
      repeat ((first | refine wpL_val (by rfl) ?_ | refine wpL_pure (by rfl) ?_); intro K hK; go_big_quiet_op; go_big_quiet_on)
      refine wpL_do (by rfl) ?_
      intro K hK
      go_simp
      refine Calls.mono (HCK.out _ (XW.out.then (Ext.draw (ext_refl wr)))) ?_
      rintro e y1 ⟨B1, q1, rfl, ho1, hx⟩
      have Y1 := hid (Ext.then (Ext.draw (ext_refl wr)) hx)
      have HO1 := hid ho1
      refine hK _ _ Y1.out ?_
      clear K hK hx ho1
      refine wpL_do (by rfl) ?_
      intro K hK
      go_simp
      have Y2 := hid (Ext.new Y1.out (.cells #[.slice B1 lk q1] 45))
      have Y3 := hid (Ext.new (ext_refl y1) (.cells #[.slice B1 lk q1] 45))
      refine hK _ _ Y2.out ?_
      clear K hK
      refine wpL_late (by rfl) ?_
      intro K hK
      refine wp_app (.tmp 18) (.tmp 21) rowRo rfl _ k (rws' L') rfl (own_ext HO.out Y2.out) _ 1 (rws' [((B1, lk, q1), lc)]) rfl (Src.rd Tryz.underlying23 _ 1 1 _ rfl (rd_lit rfl rfl) (rws_one _) (fun h => by cases h)) (by have := HML.out; simp only [maxLen] at *; omega) (by have := HML.out; omega) (Nat.le_trans HX.out.size Y2.out.size) ?_
      intro v' w9 hown9 hgrow hat hbel
      have HO9 := hid hown9
      have B9 := hid (Blk.grw (HF.out.keep Y2.out) hgrow (own_nblk HO.out HF.out (by decide)))
      have HG9 := hid hgrow
      have XB9 := hid (Below.trans (Below.mono Y2.out HX.out.size) hbel)
      obtain ⟨A', c', rfl, _, _, _, _⟩ := Rd.owned hown9
      have v0 := B9.out.cell 1
      have vf := B9.out.frozen 1
      clear hown9 hgrow hat hbel
      refine hK _ _ ?_
      clear K hK v1 v1r
      simp only [Act.put, List.setIfInBounds_toArray, List.set_cons_zero, List.set_cons_succ]
      repeat (refine wpL_pure (by rfl) ?_; intro K hK; go_big_quiet_op; go_big_quiet_on)
      refine wpL_late (by rfl) ?_
      intro K hK
      go_simp
      refine hK _ _ ?_
      clear K hK
      refine wpL_nil ?_
      go_wp2
      go_roundw
      case rel =>
        have hb9 := own_nblk HO9.out B9.out (by decide)
        refine ⟨k + 1, by omega, by go_num, A', c', L' ++ [((B1, lk, q1), lc)], hid ((B9.out.set 1 (.slice A' (k + 1) c')).cast (by simp)), hid ?_, hid ?_, hid ?_, hid ?_, hid ?_⟩
        · rw [rws_app]; exact own_put HO9.out (p := ⟨w1.heap.size, 1, none⟩) hb9 _
        · rw [HTK.out, List.map_append, HL'.out]; rfl
        · intro x hx
          rcases List.mem_append.1 hx with hx | hx
          · have h1 := own_ext (HR'.out x hx) Y2.out
            have h2 := World.ownsRow.kept h1 HG9.out (own_ne h1 (own_ext HO.out Y2.out) (by decide))
            exact own_put h2 (p := ⟨w1.heap.size, 1, none⟩) (own_nblk h2 B9.out (by decide)) _
          · simp only [List.mem_cons, List.not_mem_nil, or_false] at hx
            subst hx
            have h1 := own_low' (own_ext HO1.out Y3.out) (base := w1.heap.size) HX.out.size
            have h2 := World.ownsRow.kept h1 HG9.out (own_ne h1 (own_ext HO.out Y2.out) (by decide))
            exact own_put h2 (p := ⟨w1.heap.size, 1, none⟩) (own_nblk h2 B9.out (by decide)) _
        · refine List.pairwise_append.2 ⟨HP'.out, List.pairwise_singleton _ _, fun x hx y hy => ?_⟩
          simp only [List.mem_cons, List.not_mem_nil, or_false] at hy
          subst hy
          exact RwD.new (HR'.out x hx) (w' := y1) HO1.out
        · exact Below.setCell (Below.trans HX.out XB9.out) (Nat.le_refl _) _
      case measure => simp [intOf] <;> omega
    · obtain rfl : m = k := by omega
      have XW := hid (X1.out.then HX.out)
      have R2 := hid (R1.out.keep HX.out)
      have v0 := HF.out.cell 0
      have v1 := HF.out.cell 1
      have u0 := R2.out.cell 0
      have u1 := R2.out.cell 1
      have y0 := R2.out.frozen 0
      have y1 := R2.out.frozen 1
      rw [show (w.alloc (.cells #[.slice A n c, .slice B m d] 25)).heap.size = w.heap.size + 1 by simp] at u0 u1 y0 y1
      clear p0 p1
      go_wp2
      have HBF := hid (((R2.out.set 0 (.slice A1 n c1)).set 1 (.slice B' m d')).cast (cs' := #[.slice A1 n c1, .slice B' m d']) (by simp))
      rw [show (w.alloc (.cells #[.slice A n c, .slice B m d] 25)).heap.size = w.heap.size + 1 by simp] at HBF
      have XF := hid (Ext.put (Ext.put XW.out (p := ⟨w.heap.size + 1, 0, none⟩) (by simp only; omega) (.slice A1 n c1)) (p := ⟨w.heap.size + 1, 1, none⟩) (by simp only; omega) (.slice B' m d'))
      refine bodyPost_ret (results_blk rfl _ _ (w.heap.size + 1) 25 _ _ rfl HBF.out Tryz.underlying25 rfl (by kernel_rfl)) rfl ?_
      have hlt1 : w.heap.size + 1 < w1.heap.size := by have := R1.out.lt; simp at this; exact this
      have e1 : ∀ {e : TypeId} {size : Nat} {u : Value} {q : Nat} {xs : List Value}, wr.ownsRow w1.heap.size e size u q xs → ((wr.setCell ⟨w.heap.size + 1, 0, none⟩ (.slice A1 n c1)).setCell ⟨w.heap.size + 1, 1, none⟩ (.slice B' m d')).ownsRow w.heap.size e size u q xs := fun h => own_low' (own_past (own_past h (p := ⟨w.heap.size + 1, 0, none⟩) hlt1 _) (p := ⟨w.heap.size + 1, 1, none⟩) hlt1 _) X1.out.size
      have HO1 := own_ext O1.out HX.out
      have HO2 := own_put HO1 (p := ⟨w.heap.size + 1, 0, none⟩) (by have := own_nblk HO1 R2.out (by decide); simpa using this) (.slice A1 n c1)
      have HO3 := own_put HO2 (p := ⟨w.heap.size + 1, 1, none⟩) (by have := own_nblk HO1 R2.out (by decide); simpa using this) (.slice B' m d')
      refine ⟨_, rfl, ⟨A1, c1, B', d', L', by rw [← HN.out, ← HM.out], ?_, ?_, ?_, fun x hx => e1 (HR'.out x hx), HP'.out⟩, XF.out⟩
      · rw [← HN.out]; exact HO3
      · rw [← HM.out]; exact e1 HO.out
      · rw [HL'.out, List.take_of_length_le (by rw [← HM.out]; exact Nat.le_refl _)]
end Go.Proofs.YtolhifnlahllnaaGreatDoor
end
section
namespace Hy
open Go Go.RowKit
/-- what is below base is as it was, but for block g -/
structure Chg (base g : Nat) (w w' : World) : Prop where
  os : w'.os = w.os
  tape : w'.tape = w.tape
  output : w'.output = w.output
  size : w.heap.size ≤ w'.heap.size
  block : ∀ i, i < base → i ≠ g → w'.heap[i]? = w.heap[i]?
section
variable {base g : Nat} {a w w' : World}
theorem Chg.refl (base g : Nat) (w : World) : Chg base g w w := ⟨rfl, rfl, rfl, Nat.le_refl _, fun _ _ _ => rfl⟩
theorem Chg.below (h : Chg base g a w) (k : Below base w w') : Chg base g a w' := ⟨k.os.trans h.os, k.tape.trans h.tape, k.output.trans h.output, Nat.le_trans h.size k.size, fun i hi hn => (k.block i hi).trans (h.block i hi hn)⟩
theorem Chg.ext (h : Chg base g a w) (hb : base ≤ w.heap.size) (k : Ext w w') : Chg base g a w' := h.below (Below.mono k hb)
theorem Chg.put (h : Chg base g a w) (p : Addr) (hp : p.block = g ∨ base ≤ p.block) (u : Value) : Chg base g a (w.setCell p u) := by
  have hb := fun i (hi : i ≠ p.block) => Below.heap_setCell w p u i hi
  refine ⟨?_, ?_, ?_, by rw [size_put]; exact h.size, fun i hi hn => ?_⟩
  · rw [show (w.setCell p u).os = w.os from by unfold World.setCell; split <;> rfl]; exact h.os
  · rw [show (w.setCell p u).tape = w.tape from by unfold World.setCell; split <;> rfl]; exact h.tape
  · rw [show (w.setCell p u).output = w.output from by unfold World.setCell; split <;> rfl]; exact h.output
  · rw [hb i (fun e => by
      rcases hp with hp | hp
      · exact hn (by rw [e, hp])
      · omega)]
    exact h.block i hi hn
theorem Chg.out (h : Chg base g w w') (k : Ext a w) (hg : a.heap.size ≤ g) (hb : a.heap.size ≤ base) : Ext a w' :=
  ⟨h.os.trans k.os, h.tape.trans k.tape, h.output.trans k.output, Nat.le_trans k.size h.size, fun i hi => (h.block i (by omega) (by omega)).trans (k.block i hi)⟩
theorem Chg.blk (h : Chg base g w w') {i : Nat} {t : TypeId} {cs : Array Value} (k : Blk w i t cs) (hi : i < base) (hn : i ≠ g) : Blk w' i t cs := (h.block i hi hn).trans k
end
end Hy
namespace Go.Proofs.YtolhifnlahllnaaGreatDoor
open Go.RowKit Hy
theorem TbI.past {w : World} {base : Nat} {v : Value} {t : Tb.Tab} (h : TbI w base v t) {p : Addr} (hp : p.block < base) (u : Value) : TbI (w.setCell p u) base v t := by
  obtain ⟨A, c, B, d, L, e, h1, h2, hL, hok, hd⟩ := h
  exact ⟨A, c, B, d, L, e, own_past h1 hp u, own_past h2 hp u, hL, fun x hx => own_past (hok x hx) hp u, hd⟩
/-- a table that is read, whose blocks stand at base and behind it -/
def TbL (w : World) (base : Nat) (v : Value) (t : Tb.Tab) : Prop := ∃ A c B d L, v = .agg #[.slice A t.1.length c, .slice B t.2.length d] ∧ Rd w A (ens t.1) ∧ Rd w B (rws' L) ∧ L.map (·.2) = t.2 ∧ (∀ x ∈ L, RwOk w x) ∧ (A = none → t.1.length = 0) ∧ (B = none → t.2.length = 0) ∧ t.1.length ≤ c ∧ (∀ a, A = some a → base ≤ a.block) ∧ (∀ a, B = some a → base ≤ a.block) ∧ (∀ x ∈ L, ∀ a, x.1.1 = some a → base ≤ a.block)
theorem TbL.V {w : World} {base : Nat} {v : Value} {t : Tb.Tab} (h : TbL w base v t) : TbV w v t := by
  obtain ⟨A, c, B, d, L, e, h1, h2, hL, hok, z1, z2, hc, _⟩ := h
  exact ⟨A, c, B, d, L, e, h1, h2, hL, hok, z1, z2, hc⟩
theorem TbI.L {w : World} {base : Nat} {v : Value} {t : Tb.Tab} (h : TbI w base v t) : TbL w base v t := by
  obtain ⟨A, c, B, d, L, e, h1, h2, hL, hok, _⟩ := h
  obtain ⟨r1, z1, c1⟩ := own_rd h1
  obtain ⟨r2, z2, c2⟩ := own_rd h2
  exact ⟨A, c, B, d, L, e, r1, r2, hL, fun x hx => (hok x hx).ok, z1, z2, c1, fun a ha => (own_block_rng h1 (by rw [ha]; rfl)).1, fun a ha => (own_block_rng h2 (by rw [ha]; rfl)).1, fun x hx a ha => ((hok x hx).lt ha).1⟩
theorem TbL.put {w : World} {base : Nat} {v : Value} {t : Tb.Tab} (h : TbL w base v t) {p : Addr} (hp : p.block < base) (u : Value) : TbL (w.setCell p u) base v t := by
  obtain ⟨A, c, B, d, L, e, h1, h2, hL, hok, z1, z2, hc, k1, k2, k3⟩ := h
  exact ⟨A, c, B, d, L, e, Rd.but h1 (fun _ b hb => by have := k1 b hb; omega) u, Rd.but h2 (fun _ b hb => by have := k2 b hb; omega) u, hL, fun x hx => ⟨(hok x hx).1, (hok x hx).2.1, (hok x hx).2.2.1, Rd.but (hok x hx).2.2.2 (fun _ b hb => by have := k3 x hx b hb; omega) u⟩, z1, z2, hc, k1, k2, k3⟩
theorem TbL.keep {w w' : World} {base : Nat} {v : Value} {t : Tb.Tab} (h : TbL w base v t) (hx : Ext w w') : TbL w' base v t := by
  obtain ⟨A, c, B, d, L, e, h1, h2, hL, hok, z⟩ := h
  exact ⟨A, c, B, d, L, e, h1.keep hx, h2.keep hx, hL, fun x hx' => (hok x hx').keep hx, z⟩
/-- one that a block holds, to be read -/
def TbG (w : World) (base g : Nat) (t : Tb.Tab) : Prop := ∃ v0 v1, Blk w g 25 #[v0, v1] ∧ TbL w base (.agg #[v0, v1]) t
theorem TbG.ext {w w' : World} {base g : Nat} {t : Tb.Tab} (h : TbG w base g t) (hx : Ext w w') : TbG w' base g t := by
  obtain ⟨v0, v1, hb, hv⟩ := h
  exact ⟨v0, v1, hb.keep hx, hv.keep hx⟩
theorem TbL.low {w : World} {base base' : Nat} {v : Value} {t : Tb.Tab} (h : TbL w base' v t) (hb : base ≤ base') : TbL w base v t := by
  obtain ⟨A, c, B, d, L, e, h1, h2, hL, hok, z1, z2, hc, k1, k2, k3⟩ := h
  exact ⟨A, c, B, d, L, e, h1, h2, hL, hok, z1, z2, hc, fun a ha => Nat.le_trans hb (k1 a ha), fun a ha => Nat.le_trans hb (k2 a ha), fun x hx a ha => Nat.le_trans hb (k3 x hx a ha)⟩
theorem tb0_L (w : World) (base : Nat) : TbL w base (.agg #[.slice none 0 0, .slice none 0 0]) ([], []) := ⟨none, 0, none, 0, [], rfl, fun h => by simp [ens] at h, fun h => by simp [rws'] at h, rfl, (fun x hx => absurd hx (List.not_mem_nil)), fun _ => rfl, fun _ => rfl, Nat.le_refl _, (fun a h => by cases h), (fun a h => by cases h), fun x hx => absurd hx (List.not_mem_nil)⟩
theorem tb0_V (w : World) : TbV w (.agg #[.slice none 0 0, .slice none 0 0]) ([], []) := ⟨none, 0, none, 0, [], rfl, fun h => by simp [ens] at h, fun h => by simp [rws'] at h, rfl, (fun x hx => absurd hx (List.not_mem_nil)), fun _ => rfl, fun _ => rfl, Nat.le_refl _⟩
set_option maxHeartbeats 3200000 in
set_option maxRecDepth 100000 in
theorem changed_keep (t t' : Tb.Tab) (E : Nat) (h1 : Nat) (v : Value) (w : World) (hv : TbV w v t) (hb : TbB t) (hR : Tb.tbck t = 0 → t.1.length ≤ 1000 ∧ t.2.length ≤ 1000 ∧ ∀ l ∈ t.2, l.length ≤ 1000)
    (HF : Tb.tbck t = 0 → ∀ base g wx, Ext w wx → w.heap.size ≤ g → g < base → base ≤ wx.heap.size → TbO wx base g t → Calls Tryz.prog 40 #[.pointer (some ⟨g, 0, none⟩), .pointer (some ⟨h1, 0, none⟩)] wx fun e w' => e = .returned (.int .i64 (E : Nat)) ∧ (E = 0 → TbG w' base g t') ∧ Chg base g wx w') :
    Calls Tryz.prog 39 #[v, .func (.func 40) #[] #[.pointer (some ⟨h1, 0, none⟩)]] w fun e w' => ∃ v', e = .returned (.tuple #[v', .int .i64 ((if Tb.tbck t ≠ 0 then Tb.tbck t else E : Nat) : Int)]) ∧ TbL w' w.heap.size v' (Tb.res (if Tb.tbck t ≠ 0 then Tb.tbck t else E) t') ∧ Ext w w' := by
  have HV := hid hv
  have HB := hid hb
  obtain ⟨A, n, c, B, m, d, rfl⟩ := hv.shape
  have HC := hid (fun wx (hx : Ext w wx) => tcheck_any t _ wx (HV.out.keep hx) HB.out)
  have XN := hid (Ext.new (Ext.new (ext_refl w) (.cells #[.slice A n c, .slice B m d] 25)) (.cells #[.slice none 0 0, .slice none 0 0] 25))
  have BN := hid ((Blk.new w 25 #[.slice A n c, .slice B m d]).alloc (.cells #[.slice none 0 0, .slice none 0 0] 25))
  have BR := hid ((Blk.new (w.alloc (.cells #[.slice A n c, .slice B m d] 25)) 25 #[.slice none 0 0, .slice none 0 0]))
  rw [show (w.alloc (.cells #[.slice A n c, .slice B m d] 25)).heap.size = w.heap.size + 1 by simp] at BR
  by_cases h0 : Tb.tbck t = 0
  · obtain ⟨r1, r2, r3⟩ := hR h0
    rw [if_neg (by simp [h0])]
    rw [h0] at HC
    have HFF := hid (HF h0)
    have HO := hid (fun wx (hx : Ext w wx) => town_any t _ wx (HV.out.keep hx) r1 r2 r3)
    clear hv hb hR HF h0 r1 r2 r3
    go_enter Tryz.func39, Tryz.ntmps39
    go_wp2_with fail
    refine Calls.mono (HC.out _ XN.out) ?_
    rintro e w1 ⟨rfl, hx⟩
    have X1 := hid (Ext.then XN.out hx)
    have B1 := hid (BN.out.keep hx)
    have R1 := hid (BR.out.keep hx)
    clear hx XN BN BR
    have p0 := B1.out.cell 0
    have p1 := B1.out.cell 1
    go_wp2_with fail
    refine Calls.mono (HO.out _ X1.out) ?_
    rintro e w2 ⟨v2, rfl, ho, hx⟩
    have X2 := hid (Ext.then X1.out hx)
    have B2 := hid (B1.out.keep hx)
    have R2 := hid (R1.out.keep hx)
    have HT := hid ho
    have HLT := hid R1.out.lt
    have HLW := hid (Nat.le_of_lt (Nat.lt_trans (Nat.lt_succ_self _) R1.out.lt))
    have HSZ := hid hx.size
    obtain ⟨A2, n2, c2, D2, m2, d2, rfl⟩ := ho.V.shape
    clear hx p0 p1 ho
    have p0 := B2.out.cell 0
    have p1 := B2.out.cell 1
    have f0 := B2.out.frozen 0
    have f1 := B2.out.frozen 1
    go_wp2_with fail
    have X3 := hid (Ext.put (Ext.put X2.out (p := ⟨w.heap.size, 0, none⟩) (Nat.le_refl _) (.slice A2 n2 c2)) (p := ⟨w.heap.size, 1, none⟩) (Nat.le_refl _) (.slice D2 m2 d2))
    have B3 := hid (((B2.out.set 0 (.slice A2 n2 c2)).set 1 (.slice D2 m2 d2)).cast (cs' := #[.slice A2 n2 c2, .slice D2 m2 d2]) (by simp))
    have R3 := hid ((R2.out.far (p := ⟨w.heap.size, 0, none⟩) (by simp) (.slice A2 n2 c2)).far (p := ⟨w.heap.size, 1, none⟩) (by simp) (.slice D2 m2 d2))
    have HTO := hid (show TbO ((w2.setCell ⟨w.heap.size, 0, none⟩ (.slice A2 n2 c2)).setCell ⟨w.heap.size, 1, none⟩ (.slice D2 m2 d2)) w1.heap.size w.heap.size t from ⟨_, _, B3.out, by have := HLT.out; omega, (HT.out.past (p := ⟨w.heap.size, 0, none⟩) (by have := HLT.out; simp only; omega) _).past (p := ⟨w.heap.size, 1, none⟩) (by have := HLT.out; simp only; omega) _⟩)
    refine Calls.mono (HFF.out w1.heap.size w.heap.size _ X3.out (Nat.le_refl _) (by have := HLT.out; omega) (by rw [size_put, size_put]; exact HSZ.out) HTO.out) ?_
    rintro e w4 ⟨rfl, hg, hx⟩
    have X4 := hid (hx.out X3.out (Nat.le_refl _) (Nat.le_of_lt (by have := HLT.out; omega)))
    have R4 := hid (hx.blk R3.out HLT.out (by omega))
    clear hx p0 p1 f0 f1
    by_cases hE : E = 0
    · subst hE
      obtain ⟨u0, u1, hb4, hv4⟩ := hg rfl
      obtain ⟨A5, n5, c5, D5, m5, d5, e5⟩ := hv4.V.shape
      obtain ⟨rfl, rfl⟩ : u0 = .slice A5 n5 c5 ∧ u1 = .slice D5 m5 d5 := by
        injection e5 with e5
        have e6 := congrArg Array.toList e5
        simp only [List.cons.injEq, and_true] at e6
        exact e6
      have HB4 := hid hb4
      have HV4 := hid hv4
      clear hg hv4 hb4 e5
      have p0 := HB4.out.cell 0
      have p1 := HB4.out.cell 1
      have q0 := R4.out.cell 0
      have q1 := R4.out.cell 1
      have f0 := R4.out.frozen 0
      have f1 := R4.out.frozen 1
      go_wp2
      have HBF := hid (((R4.out.set 0 (.slice A5 n5 c5)).set 1 (.slice D5 m5 d5)).cast (cs' := #[.slice A5 n5 c5, .slice D5 m5 d5]) (by simp))
      have XF := hid (Ext.put (Ext.put X4.out (p := ⟨w.heap.size + 1, 0, none⟩) (by simp only; omega) (.slice A5 n5 c5)) (p := ⟨w.heap.size + 1, 1, none⟩) (by simp only; omega) (.slice D5 m5 d5))
      refine bodyPost_ret (results_blk2 rfl _ _ (w.heap.size + 1) 25 _ _ rfl HBF.out Tryz.underlying25 rfl (by kernel_rfl)) rfl ?_
      exact ⟨_, rfl, ((HV4.out.put (p := ⟨w.heap.size + 1, 0, none⟩) HLT.out _).put (p := ⟨w.heap.size + 1, 1, none⟩) HLT.out _).low HLW.out, XF.out⟩
    · have e1 : ((E : Int) == 0) = false := beq_eq_false_iff_ne.2 (by omega)
      have e2 : ((E : Int) != 0) = true := by simp; omega
      have HRS := hid (Tb.res_no hE t')
      clear hg hE
      have q0 := R4.out.cell 0
      have q1 := R4.out.cell 1
      have f0 := R4.out.frozen 0
      have f1 := R4.out.frozen 1
      go_wp2
      have HBF := hid (((R4.out.set 0 (.slice none 0 0)).set 1 (.slice none 0 0)).cast (cs' := #[.slice none 0 0, .slice none 0 0]) (by simp))
      have XF := hid (Ext.put (Ext.put X4.out (p := ⟨w.heap.size + 1, 0, none⟩) (by simp only; omega) (.slice none 0 0)) (p := ⟨w.heap.size + 1, 1, none⟩) (by simp only; omega) (.slice none 0 0))
      refine bodyPost_ret (results_blk2 rfl _ _ (w.heap.size + 1) 25 _ _ rfl HBF.out Tryz.underlying25 rfl (by kernel_rfl)) rfl ?_
      exact ⟨_, rfl, by rw [HRS.out]; exact tb0_L _ _, XF.out⟩
  · obtain ⟨F, hF⟩ : ∃ F, F = Tb.tbck t := ⟨_, rfl⟩
    rw [if_pos h0]
    rw [← hF] at HC h0 ⊢
    have HRS := hid (Tb.res_no h0 t')
    have e1 : ((F : Int) == 0) = false := beq_eq_false_iff_ne.2 (by omega)
    have e2 : ((F : Int) != 0) = true := by simp; omega
    clear hv hb hR hF h0 HF
    go_enter Tryz.func39, Tryz.ntmps39
    go_wp2_with fail
    refine Calls.mono (HC.out _ XN.out) ?_
    rintro e w1 ⟨rfl, hx⟩
    have X1 := hid (Ext.then XN.out hx)
    have R4 := hid (BR.out.keep hx)
    clear hx XN BN BR
    have q0 := R4.out.cell 0
    have q1 := R4.out.cell 1
    have f0 := R4.out.frozen 0
    have f1 := R4.out.frozen 1
    go_wp2
    have HBF := hid (((R4.out.set 0 (.slice none 0 0)).set 1 (.slice none 0 0)).cast (cs' := #[.slice none 0 0, .slice none 0 0]) (by simp))
    have XF := hid (Ext.put (Ext.put X1.out (p := ⟨w.heap.size + 1, 0, none⟩) (by simp only; omega) (.slice none 0 0)) (p := ⟨w.heap.size + 1, 1, none⟩) (by simp only; omega) (.slice none 0 0))
    refine bodyPost_ret (results_blk2 rfl _ _ (w.heap.size + 1) 25 _ _ rfl HBF.out Tryz.underlying25 rfl (by kernel_rfl)) rfl ?_
    exact ⟨_, rfl, by rw [HRS.out]; exact tb0_L _ _, XF.out⟩
set_option maxHeartbeats 3200000 in
set_option maxRecDepth 100000 in
theorem changed_slice (t t' : Tb.Tab) (E : Nat) (h1 h2 : Nat) (v : Value) (w : World) (hv : TbV w v t) (hb : TbB t) (hR : Tb.tbck t = 0 → t.1.length ≤ 1000 ∧ t.2.length ≤ 1000 ∧ ∀ l ∈ t.2, l.length ≤ 1000)
    (HF : Tb.tbck t = 0 → ∀ base g wx, Ext w wx → w.heap.size ≤ g → g < base → base ≤ wx.heap.size → TbO wx base g t → Calls Tryz.prog 44 #[.pointer (some ⟨g, 0, none⟩), .pointer (some ⟨h1, 0, none⟩), .pointer (some ⟨h2, 0, none⟩)] wx fun e w' => e = .returned (.int .i64 (E : Nat)) ∧ (E = 0 → TbG w' base g t') ∧ Chg base g wx w') :
    Calls Tryz.prog 39 #[v, .func (.func 44) #[] #[.pointer (some ⟨h1, 0, none⟩), .pointer (some ⟨h2, 0, none⟩)]] w fun e w' => ∃ v', e = .returned (.tuple #[v', .int .i64 ((if Tb.tbck t ≠ 0 then Tb.tbck t else E : Nat) : Int)]) ∧ TbL w' w.heap.size v' (Tb.res (if Tb.tbck t ≠ 0 then Tb.tbck t else E) t') ∧ Ext w w' := by
  have HV := hid hv
  have HB := hid hb
  obtain ⟨A, n, c, B, m, d, rfl⟩ := hv.shape
  have HC := hid (fun wx (hx : Ext w wx) => tcheck_any t _ wx (HV.out.keep hx) HB.out)
  have XN := hid (Ext.new (Ext.new (ext_refl w) (.cells #[.slice A n c, .slice B m d] 25)) (.cells #[.slice none 0 0, .slice none 0 0] 25))
  have BN := hid ((Blk.new w 25 #[.slice A n c, .slice B m d]).alloc (.cells #[.slice none 0 0, .slice none 0 0] 25))
  have BR := hid ((Blk.new (w.alloc (.cells #[.slice A n c, .slice B m d] 25)) 25 #[.slice none 0 0, .slice none 0 0]))
  rw [show (w.alloc (.cells #[.slice A n c, .slice B m d] 25)).heap.size = w.heap.size + 1 by simp] at BR
  by_cases h0 : Tb.tbck t = 0
  · obtain ⟨r1, r2, r3⟩ := hR h0
    rw [if_neg (by simp [h0])]
    rw [h0] at HC
    have HFF := hid (HF h0)
    have HO := hid (fun wx (hx : Ext w wx) => town_any t _ wx (HV.out.keep hx) r1 r2 r3)
    clear hv hb hR HF h0 r1 r2 r3
    go_enter Tryz.func39, Tryz.ntmps39
    go_wp2_with fail
    refine Calls.mono (HC.out _ XN.out) ?_
    rintro e w1 ⟨rfl, hx⟩
    have X1 := hid (Ext.then XN.out hx)
    have B1 := hid (BN.out.keep hx)
    have R1 := hid (BR.out.keep hx)
    clear hx XN BN BR
    have p0 := B1.out.cell 0
    have p1 := B1.out.cell 1
    go_wp2_with fail
    refine Calls.mono (HO.out _ X1.out) ?_
    rintro e w2 ⟨v2, rfl, ho, hx⟩
    have X2 := hid (Ext.then X1.out hx)
    have B2 := hid (B1.out.keep hx)
    have R2 := hid (R1.out.keep hx)
    have HT := hid ho
    have HLT := hid R1.out.lt
    have HLW := hid (Nat.le_of_lt (Nat.lt_trans (Nat.lt_succ_self _) R1.out.lt))
    have HSZ := hid hx.size
    obtain ⟨A2, n2, c2, D2, m2, d2, rfl⟩ := ho.V.shape
    clear hx p0 p1 ho
    have p0 := B2.out.cell 0
    have p1 := B2.out.cell 1
    have f0 := B2.out.frozen 0
    have f1 := B2.out.frozen 1
    go_wp2_with fail
    have X3 := hid (Ext.put (Ext.put X2.out (p := ⟨w.heap.size, 0, none⟩) (Nat.le_refl _) (.slice A2 n2 c2)) (p := ⟨w.heap.size, 1, none⟩) (Nat.le_refl _) (.slice D2 m2 d2))
    have B3 := hid (((B2.out.set 0 (.slice A2 n2 c2)).set 1 (.slice D2 m2 d2)).cast (cs' := #[.slice A2 n2 c2, .slice D2 m2 d2]) (by simp))
    have R3 := hid ((R2.out.far (p := ⟨w.heap.size, 0, none⟩) (by simp) (.slice A2 n2 c2)).far (p := ⟨w.heap.size, 1, none⟩) (by simp) (.slice D2 m2 d2))
    have HTO := hid (show TbO ((w2.setCell ⟨w.heap.size, 0, none⟩ (.slice A2 n2 c2)).setCell ⟨w.heap.size, 1, none⟩ (.slice D2 m2 d2)) w1.heap.size w.heap.size t from ⟨_, _, B3.out, by have := HLT.out; omega, (HT.out.past (p := ⟨w.heap.size, 0, none⟩) (by have := HLT.out; simp only; omega) _).past (p := ⟨w.heap.size, 1, none⟩) (by have := HLT.out; simp only; omega) _⟩)
    refine Calls.mono (HFF.out w1.heap.size w.heap.size _ X3.out (Nat.le_refl _) (by have := HLT.out; omega) (by rw [size_put, size_put]; exact HSZ.out) HTO.out) ?_
    rintro e w4 ⟨rfl, hg, hx⟩
    have X4 := hid (hx.out X3.out (Nat.le_refl _) (Nat.le_of_lt (by have := HLT.out; omega)))
    have R4 := hid (hx.blk R3.out HLT.out (by omega))
    clear hx p0 p1 f0 f1
    by_cases hE : E = 0
    · subst hE
      obtain ⟨u0, u1, hb4, hv4⟩ := hg rfl
      obtain ⟨A5, n5, c5, D5, m5, d5, e5⟩ := hv4.V.shape
      obtain ⟨rfl, rfl⟩ : u0 = .slice A5 n5 c5 ∧ u1 = .slice D5 m5 d5 := by
        injection e5 with e5
        have e6 := congrArg Array.toList e5
        simp only [List.cons.injEq, and_true] at e6
        exact e6
      have HB4 := hid hb4
      have HV4 := hid hv4
      clear hg hv4 hb4 e5
      have p0 := HB4.out.cell 0
      have p1 := HB4.out.cell 1
      have q0 := R4.out.cell 0
      have q1 := R4.out.cell 1
      have f0 := R4.out.frozen 0
      have f1 := R4.out.frozen 1
      go_wp2
      have HBF := hid (((R4.out.set 0 (.slice A5 n5 c5)).set 1 (.slice D5 m5 d5)).cast (cs' := #[.slice A5 n5 c5, .slice D5 m5 d5]) (by simp))
      have XF := hid (Ext.put (Ext.put X4.out (p := ⟨w.heap.size + 1, 0, none⟩) (by simp only; omega) (.slice A5 n5 c5)) (p := ⟨w.heap.size + 1, 1, none⟩) (by simp only; omega) (.slice D5 m5 d5))
      refine bodyPost_ret (results_blk2 rfl _ _ (w.heap.size + 1) 25 _ _ rfl HBF.out Tryz.underlying25 rfl (by kernel_rfl)) rfl ?_
      exact ⟨_, rfl, ((HV4.out.put (p := ⟨w.heap.size + 1, 0, none⟩) HLT.out _).put (p := ⟨w.heap.size + 1, 1, none⟩) HLT.out _).low HLW.out, XF.out⟩
    · have e1 : ((E : Int) == 0) = false := beq_eq_false_iff_ne.2 (by omega)
      have e2 : ((E : Int) != 0) = true := by simp; omega
      have HRS := hid (Tb.res_no hE t')
      clear hg hE
      have q0 := R4.out.cell 0
      have q1 := R4.out.cell 1
      have f0 := R4.out.frozen 0
      have f1 := R4.out.frozen 1
      go_wp2
      have HBF := hid (((R4.out.set 0 (.slice none 0 0)).set 1 (.slice none 0 0)).cast (cs' := #[.slice none 0 0, .slice none 0 0]) (by simp))
      have XF := hid (Ext.put (Ext.put X4.out (p := ⟨w.heap.size + 1, 0, none⟩) (by simp only; omega) (.slice none 0 0)) (p := ⟨w.heap.size + 1, 1, none⟩) (by simp only; omega) (.slice none 0 0))
      refine bodyPost_ret (results_blk2 rfl _ _ (w.heap.size + 1) 25 _ _ rfl HBF.out Tryz.underlying25 rfl (by kernel_rfl)) rfl ?_
      exact ⟨_, rfl, by rw [HRS.out]; exact tb0_L _ _, XF.out⟩
  · obtain ⟨F, hF⟩ : ∃ F, F = Tb.tbck t := ⟨_, rfl⟩
    rw [if_pos h0]
    rw [← hF] at HC h0 ⊢
    have HRS := hid (Tb.res_no h0 t')
    have e1 : ((F : Int) == 0) = false := beq_eq_false_iff_ne.2 (by omega)
    have e2 : ((F : Int) != 0) = true := by simp; omega
    clear hv hb hR hF h0 HF
    go_enter Tryz.func39, Tryz.ntmps39
    go_wp2_with fail
    refine Calls.mono (HC.out _ XN.out) ?_
    rintro e w1 ⟨rfl, hx⟩
    have X1 := hid (Ext.then XN.out hx)
    have R4 := hid (BR.out.keep hx)
    clear hx XN BN BR
    have q0 := R4.out.cell 0
    have q1 := R4.out.cell 1
    have f0 := R4.out.frozen 0
    have f1 := R4.out.frozen 1
    go_wp2
    have HBF := hid (((R4.out.set 0 (.slice none 0 0)).set 1 (.slice none 0 0)).cast (cs' := #[.slice none 0 0, .slice none 0 0]) (by simp))
    have XF := hid (Ext.put (Ext.put X1.out (p := ⟨w.heap.size + 1, 0, none⟩) (by simp only; omega) (.slice none 0 0)) (p := ⟨w.heap.size + 1, 1, none⟩) (by simp only; omega) (.slice none 0 0))
    refine bodyPost_ret (results_blk2 rfl _ _ (w.heap.size + 1) 25 _ _ rfl HBF.out Tryz.underlying25 rfl (by kernel_rfl)) rfl ?_
    exact ⟨_, rfl, by rw [HRS.out]; exact tb0_L _ _, XF.out⟩
set_option maxHeartbeats 3200000 in
set_option maxRecDepth 100000 in
theorem changed_app (t t' : Tb.Tab) (E : Nat) (h1 : Nat) (v : Value) (w : World) (hv : TbV w v t) (hb : TbB t) (hR : Tb.tbck t = 0 → t.1.length ≤ 1000 ∧ t.2.length ≤ 1000 ∧ ∀ l ∈ t.2, l.length ≤ 1000)
    (HF : Tb.tbck t = 0 → ∀ base g wx, Ext w wx → w.heap.size ≤ g → g < base → base ≤ wx.heap.size → TbO wx base g t → Calls Tryz.prog 46 #[.pointer (some ⟨g, 0, none⟩), .pointer (some ⟨h1, 0, none⟩)] wx fun e w' => e = .returned (.int .i64 (E : Nat)) ∧ (E = 0 → TbG w' base g t') ∧ Chg base g wx w') :
    Calls Tryz.prog 39 #[v, .func (.func 46) #[] #[.pointer (some ⟨h1, 0, none⟩)]] w fun e w' => ∃ v', e = .returned (.tuple #[v', .int .i64 ((if Tb.tbck t ≠ 0 then Tb.tbck t else E : Nat) : Int)]) ∧ TbL w' w.heap.size v' (Tb.res (if Tb.tbck t ≠ 0 then Tb.tbck t else E) t') ∧ Ext w w' := by
  have HV := hid hv
  have HB := hid hb
  obtain ⟨A, n, c, B, m, d, rfl⟩ := hv.shape
  have HC := hid (fun wx (hx : Ext w wx) => tcheck_any t _ wx (HV.out.keep hx) HB.out)
  have XN := hid (Ext.new (Ext.new (ext_refl w) (.cells #[.slice A n c, .slice B m d] 25)) (.cells #[.slice none 0 0, .slice none 0 0] 25))
  have BN := hid ((Blk.new w 25 #[.slice A n c, .slice B m d]).alloc (.cells #[.slice none 0 0, .slice none 0 0] 25))
  have BR := hid ((Blk.new (w.alloc (.cells #[.slice A n c, .slice B m d] 25)) 25 #[.slice none 0 0, .slice none 0 0]))
  rw [show (w.alloc (.cells #[.slice A n c, .slice B m d] 25)).heap.size = w.heap.size + 1 by simp] at BR
  by_cases h0 : Tb.tbck t = 0
  · obtain ⟨r1, r2, r3⟩ := hR h0
    rw [if_neg (by simp [h0])]
    rw [h0] at HC
    have HFF := hid (HF h0)
    have HO := hid (fun wx (hx : Ext w wx) => town_any t _ wx (HV.out.keep hx) r1 r2 r3)
    clear hv hb hR HF h0 r1 r2 r3
    go_enter Tryz.func39, Tryz.ntmps39
    go_wp2_with fail
    refine Calls.mono (HC.out _ XN.out) ?_
    rintro e w1 ⟨rfl, hx⟩
    have X1 := hid (Ext.then XN.out hx)
    have B1 := hid (BN.out.keep hx)
    have R1 := hid (BR.out.keep hx)
    clear hx XN BN BR
    have p0 := B1.out.cell 0
    have p1 := B1.out.cell 1
    go_wp2_with fail
    refine Calls.mono (HO.out _ X1.out) ?_
    rintro e w2 ⟨v2, rfl, ho, hx⟩
    have X2 := hid (Ext.then X1.out hx)
    have B2 := hid (B1.out.keep hx)
    have R2 := hid (R1.out.keep hx)
    have HT := hid ho
    have HLT := hid R1.out.lt
    have HLW := hid (Nat.le_of_lt (Nat.lt_trans (Nat.lt_succ_self _) R1.out.lt))
    have HSZ := hid hx.size
    obtain ⟨A2, n2, c2, D2, m2, d2, rfl⟩ := ho.V.shape
    clear hx p0 p1 ho
    have p0 := B2.out.cell 0
    have p1 := B2.out.cell 1
    have f0 := B2.out.frozen 0
    have f1 := B2.out.frozen 1
    go_wp2_with fail
    have X3 := hid (Ext.put (Ext.put X2.out (p := ⟨w.heap.size, 0, none⟩) (Nat.le_refl _) (.slice A2 n2 c2)) (p := ⟨w.heap.size, 1, none⟩) (Nat.le_refl _) (.slice D2 m2 d2))
    have B3 := hid (((B2.out.set 0 (.slice A2 n2 c2)).set 1 (.slice D2 m2 d2)).cast (cs' := #[.slice A2 n2 c2, .slice D2 m2 d2]) (by simp))
    have R3 := hid ((R2.out.far (p := ⟨w.heap.size, 0, none⟩) (by simp) (.slice A2 n2 c2)).far (p := ⟨w.heap.size, 1, none⟩) (by simp) (.slice D2 m2 d2))
    have HTO := hid (show TbO ((w2.setCell ⟨w.heap.size, 0, none⟩ (.slice A2 n2 c2)).setCell ⟨w.heap.size, 1, none⟩ (.slice D2 m2 d2)) w1.heap.size w.heap.size t from ⟨_, _, B3.out, by have := HLT.out; omega, (HT.out.past (p := ⟨w.heap.size, 0, none⟩) (by have := HLT.out; simp only; omega) _).past (p := ⟨w.heap.size, 1, none⟩) (by have := HLT.out; simp only; omega) _⟩)
    refine Calls.mono (HFF.out w1.heap.size w.heap.size _ X3.out (Nat.le_refl _) (by have := HLT.out; omega) (by rw [size_put, size_put]; exact HSZ.out) HTO.out) ?_
    rintro e w4 ⟨rfl, hg, hx⟩
    have X4 := hid (hx.out X3.out (Nat.le_refl _) (Nat.le_of_lt (by have := HLT.out; omega)))
    have R4 := hid (hx.blk R3.out HLT.out (by omega))
    clear hx p0 p1 f0 f1
    by_cases hE : E = 0
    · subst hE
      obtain ⟨u0, u1, hb4, hv4⟩ := hg rfl
      obtain ⟨A5, n5, c5, D5, m5, d5, e5⟩ := hv4.V.shape
      obtain ⟨rfl, rfl⟩ : u0 = .slice A5 n5 c5 ∧ u1 = .slice D5 m5 d5 := by
        injection e5 with e5
        have e6 := congrArg Array.toList e5
        simp only [List.cons.injEq, and_true] at e6
        exact e6
      have HB4 := hid hb4
      have HV4 := hid hv4
      clear hg hv4 hb4 e5
      have p0 := HB4.out.cell 0
      have p1 := HB4.out.cell 1
      have q0 := R4.out.cell 0
      have q1 := R4.out.cell 1
      have f0 := R4.out.frozen 0
      have f1 := R4.out.frozen 1
      go_wp2
      have HBF := hid (((R4.out.set 0 (.slice A5 n5 c5)).set 1 (.slice D5 m5 d5)).cast (cs' := #[.slice A5 n5 c5, .slice D5 m5 d5]) (by simp))
      have XF := hid (Ext.put (Ext.put X4.out (p := ⟨w.heap.size + 1, 0, none⟩) (by simp only; omega) (.slice A5 n5 c5)) (p := ⟨w.heap.size + 1, 1, none⟩) (by simp only; omega) (.slice D5 m5 d5))
      refine bodyPost_ret (results_blk2 rfl _ _ (w.heap.size + 1) 25 _ _ rfl HBF.out Tryz.underlying25 rfl (by kernel_rfl)) rfl ?_
      exact ⟨_, rfl, ((HV4.out.put (p := ⟨w.heap.size + 1, 0, none⟩) HLT.out _).put (p := ⟨w.heap.size + 1, 1, none⟩) HLT.out _).low HLW.out, XF.out⟩
    · have e1 : ((E : Int) == 0) = false := beq_eq_false_iff_ne.2 (by omega)
      have e2 : ((E : Int) != 0) = true := by simp; omega
      have HRS := hid (Tb.res_no hE t')
      clear hg hE
      have q0 := R4.out.cell 0
      have q1 := R4.out.cell 1
      have f0 := R4.out.frozen 0
      have f1 := R4.out.frozen 1
      go_wp2
      have HBF := hid (((R4.out.set 0 (.slice none 0 0)).set 1 (.slice none 0 0)).cast (cs' := #[.slice none 0 0, .slice none 0 0]) (by simp))
      have XF := hid (Ext.put (Ext.put X4.out (p := ⟨w.heap.size + 1, 0, none⟩) (by simp only; omega) (.slice none 0 0)) (p := ⟨w.heap.size + 1, 1, none⟩) (by simp only; omega) (.slice none 0 0))
      refine bodyPost_ret (results_blk2 rfl _ _ (w.heap.size + 1) 25 _ _ rfl HBF.out Tryz.underlying25 rfl (by kernel_rfl)) rfl ?_
      exact ⟨_, rfl, by rw [HRS.out]; exact tb0_L _ _, XF.out⟩
  · obtain ⟨F, hF⟩ : ∃ F, F = Tb.tbck t := ⟨_, rfl⟩
    rw [if_pos h0]
    rw [← hF] at HC h0 ⊢
    have HRS := hid (Tb.res_no h0 t')
    have e1 : ((F : Int) == 0) = false := beq_eq_false_iff_ne.2 (by omega)
    have e2 : ((F : Int) != 0) = true := by simp; omega
    clear hv hb hR hF h0 HF
    go_enter Tryz.func39, Tryz.ntmps39
    go_wp2_with fail
    refine Calls.mono (HC.out _ XN.out) ?_
    rintro e w1 ⟨rfl, hx⟩
    have X1 := hid (Ext.then XN.out hx)
    have R4 := hid (BR.out.keep hx)
    clear hx XN BN BR
    have q0 := R4.out.cell 0
    have q1 := R4.out.cell 1
    have f0 := R4.out.frozen 0
    have f1 := R4.out.frozen 1
    go_wp2
    have HBF := hid (((R4.out.set 0 (.slice none 0 0)).set 1 (.slice none 0 0)).cast (cs' := #[.slice none 0 0, .slice none 0 0]) (by simp))
    have XF := hid (Ext.put (Ext.put X1.out (p := ⟨w.heap.size + 1, 0, none⟩) (by simp only; omega) (.slice none 0 0)) (p := ⟨w.heap.size + 1, 1, none⟩) (by simp only; omega) (.slice none 0 0))
    refine bodyPost_ret (results_blk2 rfl _ _ (w.heap.size + 1) 25 _ _ rfl HBF.out Tryz.underlying25 rfl (by kernel_rfl)) rfl ?_
    exact ⟨_, rfl, by rw [HRS.out]; exact tb0_L _ _, XF.out⟩
set_option maxHeartbeats 3200000 in
set_option maxRecDepth 100000 in
theorem changed_proj (t t' : Tb.Tab) (E : Nat) (h1 : Nat) (v : Value) (w : World) (hv : TbV w v t) (hb : TbB t) (hR : Tb.tbck t = 0 → t.1.length ≤ 1000 ∧ t.2.length ≤ 1000 ∧ ∀ l ∈ t.2, l.length ≤ 1000)
    (HF : Tb.tbck t = 0 → ∀ base g wx, Ext w wx → w.heap.size ≤ g → g < base → base ≤ wx.heap.size → TbO wx base g t → Calls Tryz.prog 41 #[.pointer (some ⟨g, 0, none⟩), .pointer (some ⟨h1, 0, none⟩)] wx fun e w' => e = .returned (.int .i64 (E : Nat)) ∧ (E = 0 → TbG w' base g t') ∧ Chg base g wx w') :
    Calls Tryz.prog 39 #[v, .func (.func 41) #[] #[.pointer (some ⟨h1, 0, none⟩)]] w fun e w' => ∃ v', e = .returned (.tuple #[v', .int .i64 ((if Tb.tbck t ≠ 0 then Tb.tbck t else E : Nat) : Int)]) ∧ TbL w' w.heap.size v' (Tb.res (if Tb.tbck t ≠ 0 then Tb.tbck t else E) t') ∧ Ext w w' := by
  have HV := hid hv
  have HB := hid hb
  obtain ⟨A, n, c, B, m, d, rfl⟩ := hv.shape
  have HC := hid (fun wx (hx : Ext w wx) => tcheck_any t _ wx (HV.out.keep hx) HB.out)
  have XN := hid (Ext.new (Ext.new (ext_refl w) (.cells #[.slice A n c, .slice B m d] 25)) (.cells #[.slice none 0 0, .slice none 0 0] 25))
  have BN := hid ((Blk.new w 25 #[.slice A n c, .slice B m d]).alloc (.cells #[.slice none 0 0, .slice none 0 0] 25))
  have BR := hid ((Blk.new (w.alloc (.cells #[.slice A n c, .slice B m d] 25)) 25 #[.slice none 0 0, .slice none 0 0]))
  rw [show (w.alloc (.cells #[.slice A n c, .slice B m d] 25)).heap.size = w.heap.size + 1 by simp] at BR
  by_cases h0 : Tb.tbck t = 0
  · obtain ⟨r1, r2, r3⟩ := hR h0
    rw [if_neg (by simp [h0])]
    rw [h0] at HC
    have HFF := hid (HF h0)
    have HO := hid (fun wx (hx : Ext w wx) => town_any t _ wx (HV.out.keep hx) r1 r2 r3)
    clear hv hb hR HF h0 r1 r2 r3
    go_enter Tryz.func39, Tryz.ntmps39
    go_wp2_with fail
    refine Calls.mono (HC.out _ XN.out) ?_
    rintro e w1 ⟨rfl, hx⟩
    have X1 := hid (Ext.then XN.out hx)
    have B1 := hid (BN.out.keep hx)
    have R1 := hid (BR.out.keep hx)
    clear hx XN BN BR
    have p0 := B1.out.cell 0
    have p1 := B1.out.cell 1
    go_wp2_with fail
    refine Calls.mono (HO.out _ X1.out) ?_
    rintro e w2 ⟨v2, rfl, ho, hx⟩
    have X2 := hid (Ext.then X1.out hx)
    have B2 := hid (B1.out.keep hx)
    have R2 := hid (R1.out.keep hx)
    have HT := hid ho
    have HLT := hid R1.out.lt
    have HLW := hid (Nat.le_of_lt (Nat.lt_trans (Nat.lt_succ_self _) R1.out.lt))
    have HSZ := hid hx.size
    obtain ⟨A2, n2, c2, D2, m2, d2, rfl⟩ := ho.V.shape
    clear hx p0 p1 ho
    have p0 := B2.out.cell 0
    have p1 := B2.out.cell 1
    have f0 := B2.out.frozen 0
    have f1 := B2.out.frozen 1
    go_wp2_with fail
    have X3 := hid (Ext.put (Ext.put X2.out (p := ⟨w.heap.size, 0, none⟩) (Nat.le_refl _) (.slice A2 n2 c2)) (p := ⟨w.heap.size, 1, none⟩) (Nat.le_refl _) (.slice D2 m2 d2))
    have B3 := hid (((B2.out.set 0 (.slice A2 n2 c2)).set 1 (.slice D2 m2 d2)).cast (cs' := #[.slice A2 n2 c2, .slice D2 m2 d2]) (by simp))
    have R3 := hid ((R2.out.far (p := ⟨w.heap.size, 0, none⟩) (by simp) (.slice A2 n2 c2)).far (p := ⟨w.heap.size, 1, none⟩) (by simp) (.slice D2 m2 d2))
    have HTO := hid (show TbO ((w2.setCell ⟨w.heap.size, 0, none⟩ (.slice A2 n2 c2)).setCell ⟨w.heap.size, 1, none⟩ (.slice D2 m2 d2)) w1.heap.size w.heap.size t from ⟨_, _, B3.out, by have := HLT.out; omega, (HT.out.past (p := ⟨w.heap.size, 0, none⟩) (by have := HLT.out; simp only; omega) _).past (p := ⟨w.heap.size, 1, none⟩) (by have := HLT.out; simp only; omega) _⟩)
    refine Calls.mono (HFF.out w1.heap.size w.heap.size _ X3.out (Nat.le_refl _) (by have := HLT.out; omega) (by rw [size_put, size_put]; exact HSZ.out) HTO.out) ?_
    rintro e w4 ⟨rfl, hg, hx⟩
    have X4 := hid (hx.out X3.out (Nat.le_refl _) (Nat.le_of_lt (by have := HLT.out; omega)))
    have R4 := hid (hx.blk R3.out HLT.out (by omega))
    clear hx p0 p1 f0 f1
    by_cases hE : E = 0
    · subst hE
      obtain ⟨u0, u1, hb4, hv4⟩ := hg rfl
      obtain ⟨A5, n5, c5, D5, m5, d5, e5⟩ := hv4.V.shape
      obtain ⟨rfl, rfl⟩ : u0 = .slice A5 n5 c5 ∧ u1 = .slice D5 m5 d5 := by
        injection e5 with e5
        have e6 := congrArg Array.toList e5
        simp only [List.cons.injEq, and_true] at e6
        exact e6
      have HB4 := hid hb4
      have HV4 := hid hv4
      clear hg hv4 hb4 e5
      have p0 := HB4.out.cell 0
      have p1 := HB4.out.cell 1
      have q0 := R4.out.cell 0
      have q1 := R4.out.cell 1
      have f0 := R4.out.frozen 0
      have f1 := R4.out.frozen 1
      go_wp2
      have HBF := hid (((R4.out.set 0 (.slice A5 n5 c5)).set 1 (.slice D5 m5 d5)).cast (cs' := #[.slice A5 n5 c5, .slice D5 m5 d5]) (by simp))
      have XF := hid (Ext.put (Ext.put X4.out (p := ⟨w.heap.size + 1, 0, none⟩) (by simp only; omega) (.slice A5 n5 c5)) (p := ⟨w.heap.size + 1, 1, none⟩) (by simp only; omega) (.slice D5 m5 d5))
      refine bodyPost_ret (results_blk2 rfl _ _ (w.heap.size + 1) 25 _ _ rfl HBF.out Tryz.underlying25 rfl (by kernel_rfl)) rfl ?_
      exact ⟨_, rfl, ((HV4.out.put (p := ⟨w.heap.size + 1, 0, none⟩) HLT.out _).put (p := ⟨w.heap.size + 1, 1, none⟩) HLT.out _).low HLW.out, XF.out⟩
    · have e1 : ((E : Int) == 0) = false := beq_eq_false_iff_ne.2 (by omega)
      have e2 : ((E : Int) != 0) = true := by simp; omega
      have HRS := hid (Tb.res_no hE t')
      clear hg hE
      have q0 := R4.out.cell 0
      have q1 := R4.out.cell 1
      have f0 := R4.out.frozen 0
      have f1 := R4.out.frozen 1
      go_wp2
      have HBF := hid (((R4.out.set 0 (.slice none 0 0)).set 1 (.slice none 0 0)).cast (cs' := #[.slice none 0 0, .slice none 0 0]) (by simp))
      have XF := hid (Ext.put (Ext.put X4.out (p := ⟨w.heap.size + 1, 0, none⟩) (by simp only; omega) (.slice none 0 0)) (p := ⟨w.heap.size + 1, 1, none⟩) (by simp only; omega) (.slice none 0 0))
      refine bodyPost_ret (results_blk2 rfl _ _ (w.heap.size + 1) 25 _ _ rfl HBF.out Tryz.underlying25 rfl (by kernel_rfl)) rfl ?_
      exact ⟨_, rfl, by rw [HRS.out]; exact tb0_L _ _, XF.out⟩
  · obtain ⟨F, hF⟩ : ∃ F, F = Tb.tbck t := ⟨_, rfl⟩
    rw [if_pos h0]
    rw [← hF] at HC h0 ⊢
    have HRS := hid (Tb.res_no h0 t')
    have e1 : ((F : Int) == 0) = false := beq_eq_false_iff_ne.2 (by omega)
    have e2 : ((F : Int) != 0) = true := by simp; omega
    clear hv hb hR hF h0 HF
    go_enter Tryz.func39, Tryz.ntmps39
    go_wp2_with fail
    refine Calls.mono (HC.out _ XN.out) ?_
    rintro e w1 ⟨rfl, hx⟩
    have X1 := hid (Ext.then XN.out hx)
    have R4 := hid (BR.out.keep hx)
    clear hx XN BN BR
    have q0 := R4.out.cell 0
    have q1 := R4.out.cell 1
    have f0 := R4.out.frozen 0
    have f1 := R4.out.frozen 1
    go_wp2
    have HBF := hid (((R4.out.set 0 (.slice none 0 0)).set 1 (.slice none 0 0)).cast (cs' := #[.slice none 0 0, .slice none 0 0]) (by simp))
    have XF := hid (Ext.put (Ext.put X1.out (p := ⟨w.heap.size + 1, 0, none⟩) (by simp only; omega) (.slice none 0 0)) (p := ⟨w.heap.size + 1, 1, none⟩) (by simp only; omega) (.slice none 0 0))
    refine bodyPost_ret (results_blk2 rfl _ _ (w.heap.size + 1) 25 _ _ rfl HBF.out Tryz.underlying25 rfl (by kernel_rfl)) rfl ?_
    exact ⟨_, rfl, by rw [HRS.out]; exact tb0_L _ _, XF.out⟩
set_option maxHeartbeats 3200000 in
set_option maxRecDepth 100000 in
theorem changed_add (t t' : Tb.Tab) (E : Nat) (h1 h2 : Nat) (v : Value) (w : World) (hv : TbV w v t) (hb : TbB t) (hR : Tb.tbck t = 0 → t.1.length ≤ 1000 ∧ t.2.length ≤ 1000 ∧ ∀ l ∈ t.2, l.length ≤ 1000)
    (HF : Tb.tbck t = 0 → ∀ base g wx, Ext w wx → w.heap.size ≤ g → g < base → base ≤ wx.heap.size → TbO wx base g t → Calls Tryz.prog 60 #[.pointer (some ⟨g, 0, none⟩), .pointer (some ⟨h1, 0, none⟩), .pointer (some ⟨h2, 0, none⟩)] wx fun e w' => e = .returned (.int .i64 (E : Nat)) ∧ (E = 0 → TbG w' base g t') ∧ Chg base g wx w') :
    Calls Tryz.prog 39 #[v, .func (.func 60) #[] #[.pointer (some ⟨h1, 0, none⟩), .pointer (some ⟨h2, 0, none⟩)]] w fun e w' => ∃ v', e = .returned (.tuple #[v', .int .i64 ((if Tb.tbck t ≠ 0 then Tb.tbck t else E : Nat) : Int)]) ∧ TbL w' w.heap.size v' (Tb.res (if Tb.tbck t ≠ 0 then Tb.tbck t else E) t') ∧ Ext w w' := by
  have HV := hid hv
  have HB := hid hb
  obtain ⟨A, n, c, B, m, d, rfl⟩ := hv.shape
  have HC := hid (fun wx (hx : Ext w wx) => tcheck_any t _ wx (HV.out.keep hx) HB.out)
  have XN := hid (Ext.new (Ext.new (ext_refl w) (.cells #[.slice A n c, .slice B m d] 25)) (.cells #[.slice none 0 0, .slice none 0 0] 25))
  have BN := hid ((Blk.new w 25 #[.slice A n c, .slice B m d]).alloc (.cells #[.slice none 0 0, .slice none 0 0] 25))
  have BR := hid ((Blk.new (w.alloc (.cells #[.slice A n c, .slice B m d] 25)) 25 #[.slice none 0 0, .slice none 0 0]))
  rw [show (w.alloc (.cells #[.slice A n c, .slice B m d] 25)).heap.size = w.heap.size + 1 by simp] at BR
  by_cases h0 : Tb.tbck t = 0
  · obtain ⟨r1, r2, r3⟩ := hR h0
    rw [if_neg (by simp [h0])]
    rw [h0] at HC
    have HFF := hid (HF h0)
    have HO := hid (fun wx (hx : Ext w wx) => town_any t _ wx (HV.out.keep hx) r1 r2 r3)
    clear hv hb hR HF h0 r1 r2 r3
    go_enter Tryz.func39, Tryz.ntmps39
    go_wp2_with fail
    refine Calls.mono (HC.out _ XN.out) ?_
    rintro e w1 ⟨rfl, hx⟩
    have X1 := hid (Ext.then XN.out hx)
    have B1 := hid (BN.out.keep hx)
    have R1 := hid (BR.out.keep hx)
    clear hx XN BN BR
    have p0 := B1.out.cell 0
    have p1 := B1.out.cell 1
    go_wp2_with fail
    refine Calls.mono (HO.out _ X1.out) ?_
    rintro e w2 ⟨v2, rfl, ho, hx⟩
    have X2 := hid (Ext.then X1.out hx)
    have B2 := hid (B1.out.keep hx)
    have R2 := hid (R1.out.keep hx)
    have HT := hid ho
    have HLT := hid R1.out.lt
    have HLW := hid (Nat.le_of_lt (Nat.lt_trans (Nat.lt_succ_self _) R1.out.lt))
    have HSZ := hid hx.size
    obtain ⟨A2, n2, c2, D2, m2, d2, rfl⟩ := ho.V.shape
    clear hx p0 p1 ho
    have p0 := B2.out.cell 0
    have p1 := B2.out.cell 1
    have f0 := B2.out.frozen 0
    have f1 := B2.out.frozen 1
    go_wp2_with fail
    have X3 := hid (Ext.put (Ext.put X2.out (p := ⟨w.heap.size, 0, none⟩) (Nat.le_refl _) (.slice A2 n2 c2)) (p := ⟨w.heap.size, 1, none⟩) (Nat.le_refl _) (.slice D2 m2 d2))
    have B3 := hid (((B2.out.set 0 (.slice A2 n2 c2)).set 1 (.slice D2 m2 d2)).cast (cs' := #[.slice A2 n2 c2, .slice D2 m2 d2]) (by simp))
    have R3 := hid ((R2.out.far (p := ⟨w.heap.size, 0, none⟩) (by simp) (.slice A2 n2 c2)).far (p := ⟨w.heap.size, 1, none⟩) (by simp) (.slice D2 m2 d2))
    have HTO := hid (show TbO ((w2.setCell ⟨w.heap.size, 0, none⟩ (.slice A2 n2 c2)).setCell ⟨w.heap.size, 1, none⟩ (.slice D2 m2 d2)) w1.heap.size w.heap.size t from ⟨_, _, B3.out, by have := HLT.out; omega, (HT.out.past (p := ⟨w.heap.size, 0, none⟩) (by have := HLT.out; simp only; omega) _).past (p := ⟨w.heap.size, 1, none⟩) (by have := HLT.out; simp only; omega) _⟩)
    refine Calls.mono (HFF.out w1.heap.size w.heap.size _ X3.out (Nat.le_refl _) (by have := HLT.out; omega) (by rw [size_put, size_put]; exact HSZ.out) HTO.out) ?_
    rintro e w4 ⟨rfl, hg, hx⟩
    have X4 := hid (hx.out X3.out (Nat.le_refl _) (Nat.le_of_lt (by have := HLT.out; omega)))
    have R4 := hid (hx.blk R3.out HLT.out (by omega))
    clear hx p0 p1 f0 f1
    by_cases hE : E = 0
    · subst hE
      obtain ⟨u0, u1, hb4, hv4⟩ := hg rfl
      obtain ⟨A5, n5, c5, D5, m5, d5, e5⟩ := hv4.V.shape
      obtain ⟨rfl, rfl⟩ : u0 = .slice A5 n5 c5 ∧ u1 = .slice D5 m5 d5 := by
        injection e5 with e5
        have e6 := congrArg Array.toList e5
        simp only [List.cons.injEq, and_true] at e6
        exact e6
      have HB4 := hid hb4
      have HV4 := hid hv4
      clear hg hv4 hb4 e5
      have p0 := HB4.out.cell 0
      have p1 := HB4.out.cell 1
      have q0 := R4.out.cell 0
      have q1 := R4.out.cell 1
      have f0 := R4.out.frozen 0
      have f1 := R4.out.frozen 1
      go_wp2
      have HBF := hid (((R4.out.set 0 (.slice A5 n5 c5)).set 1 (.slice D5 m5 d5)).cast (cs' := #[.slice A5 n5 c5, .slice D5 m5 d5]) (by simp))
      have XF := hid (Ext.put (Ext.put X4.out (p := ⟨w.heap.size + 1, 0, none⟩) (by simp only; omega) (.slice A5 n5 c5)) (p := ⟨w.heap.size + 1, 1, none⟩) (by simp only; omega) (.slice D5 m5 d5))
      refine bodyPost_ret (results_blk2 rfl _ _ (w.heap.size + 1) 25 _ _ rfl HBF.out Tryz.underlying25 rfl (by kernel_rfl)) rfl ?_
      exact ⟨_, rfl, ((HV4.out.put (p := ⟨w.heap.size + 1, 0, none⟩) HLT.out _).put (p := ⟨w.heap.size + 1, 1, none⟩) HLT.out _).low HLW.out, XF.out⟩
    · have e1 : ((E : Int) == 0) = false := beq_eq_false_iff_ne.2 (by omega)
      have e2 : ((E : Int) != 0) = true := by simp; omega
      have HRS := hid (Tb.res_no hE t')
      clear hg hE
      have q0 := R4.out.cell 0
      have q1 := R4.out.cell 1
      have f0 := R4.out.frozen 0
      have f1 := R4.out.frozen 1
      go_wp2
      have HBF := hid (((R4.out.set 0 (.slice none 0 0)).set 1 (.slice none 0 0)).cast (cs' := #[.slice none 0 0, .slice none 0 0]) (by simp))
      have XF := hid (Ext.put (Ext.put X4.out (p := ⟨w.heap.size + 1, 0, none⟩) (by simp only; omega) (.slice none 0 0)) (p := ⟨w.heap.size + 1, 1, none⟩) (by simp only; omega) (.slice none 0 0))
      refine bodyPost_ret (results_blk2 rfl _ _ (w.heap.size + 1) 25 _ _ rfl HBF.out Tryz.underlying25 rfl (by kernel_rfl)) rfl ?_
      exact ⟨_, rfl, by rw [HRS.out]; exact tb0_L _ _, XF.out⟩
  · obtain ⟨F, hF⟩ : ∃ F, F = Tb.tbck t := ⟨_, rfl⟩
    rw [if_pos h0]
    rw [← hF] at HC h0 ⊢
    have HRS := hid (Tb.res_no h0 t')
    have e1 : ((F : Int) == 0) = false := beq_eq_false_iff_ne.2 (by omega)
    have e2 : ((F : Int) != 0) = true := by simp; omega
    clear hv hb hR hF h0 HF
    go_enter Tryz.func39, Tryz.ntmps39
    go_wp2_with fail
    refine Calls.mono (HC.out _ XN.out) ?_
    rintro e w1 ⟨rfl, hx⟩
    have X1 := hid (Ext.then XN.out hx)
    have R4 := hid (BR.out.keep hx)
    clear hx XN BN BR
    have q0 := R4.out.cell 0
    have q1 := R4.out.cell 1
    have f0 := R4.out.frozen 0
    have f1 := R4.out.frozen 1
    go_wp2
    have HBF := hid (((R4.out.set 0 (.slice none 0 0)).set 1 (.slice none 0 0)).cast (cs' := #[.slice none 0 0, .slice none 0 0]) (by simp))
    have XF := hid (Ext.put (Ext.put X1.out (p := ⟨w.heap.size + 1, 0, none⟩) (by simp only; omega) (.slice none 0 0)) (p := ⟨w.heap.size + 1, 1, none⟩) (by simp only; omega) (.slice none 0 0))
    refine bodyPost_ret (results_blk2 rfl _ _ (w.heap.size + 1) 25 _ _ rfl HBF.out Tryz.underlying25 rfl (by kernel_rfl)) rfl ?_
    exact ⟨_, rfl, by rw [HRS.out]; exact tb0_L _ _, XF.out⟩
set_option maxHeartbeats 3200000 in
set_option maxRecDepth 100000 in
theorem changed_found (t t' : Tb.Tab) (E : Nat) (h1 h2 : Nat) (v : Value) (w : World) (hv : TbV w v t) (hb : TbB t) (hR : Tb.tbck t = 0 → t.1.length ≤ 1000 ∧ t.2.length ≤ 1000 ∧ ∀ l ∈ t.2, l.length ≤ 1000)
    (HF : Tb.tbck t = 0 → ∀ base g wx, Ext w wx → w.heap.size ≤ g → g < base → base ≤ wx.heap.size → TbO wx base g t → Calls Tryz.prog 76 #[.pointer (some ⟨g, 0, none⟩), .pointer (some ⟨h1, 0, none⟩), .pointer (some ⟨h2, 0, none⟩)] wx fun e w' => e = .returned (.int .i64 (E : Nat)) ∧ (E = 0 → TbG w' base g t') ∧ Chg base g wx w') :
    Calls Tryz.prog 39 #[v, .func (.func 76) #[] #[.pointer (some ⟨h1, 0, none⟩), .pointer (some ⟨h2, 0, none⟩)]] w fun e w' => ∃ v', e = .returned (.tuple #[v', .int .i64 ((if Tb.tbck t ≠ 0 then Tb.tbck t else E : Nat) : Int)]) ∧ TbL w' w.heap.size v' (Tb.res (if Tb.tbck t ≠ 0 then Tb.tbck t else E) t') ∧ Ext w w' := by
  have HV := hid hv
  have HB := hid hb
  obtain ⟨A, n, c, B, m, d, rfl⟩ := hv.shape
  have HC := hid (fun wx (hx : Ext w wx) => tcheck_any t _ wx (HV.out.keep hx) HB.out)
  have XN := hid (Ext.new (Ext.new (ext_refl w) (.cells #[.slice A n c, .slice B m d] 25)) (.cells #[.slice none 0 0, .slice none 0 0] 25))
  have BN := hid ((Blk.new w 25 #[.slice A n c, .slice B m d]).alloc (.cells #[.slice none 0 0, .slice none 0 0] 25))
  have BR := hid ((Blk.new (w.alloc (.cells #[.slice A n c, .slice B m d] 25)) 25 #[.slice none 0 0, .slice none 0 0]))
  rw [show (w.alloc (.cells #[.slice A n c, .slice B m d] 25)).heap.size = w.heap.size + 1 by simp] at BR
  by_cases h0 : Tb.tbck t = 0
  · obtain ⟨r1, r2, r3⟩ := hR h0
    rw [if_neg (by simp [h0])]
    rw [h0] at HC
    have HFF := hid (HF h0)
    have HO := hid (fun wx (hx : Ext w wx) => town_any t _ wx (HV.out.keep hx) r1 r2 r3)
    clear hv hb hR HF h0 r1 r2 r3
    go_enter Tryz.func39, Tryz.ntmps39
    go_wp2_with fail
    refine Calls.mono (HC.out _ XN.out) ?_
    rintro e w1 ⟨rfl, hx⟩
    have X1 := hid (Ext.then XN.out hx)
    have B1 := hid (BN.out.keep hx)
    have R1 := hid (BR.out.keep hx)
    clear hx XN BN BR
    have p0 := B1.out.cell 0
    have p1 := B1.out.cell 1
    go_wp2_with fail
    refine Calls.mono (HO.out _ X1.out) ?_
    rintro e w2 ⟨v2, rfl, ho, hx⟩
    have X2 := hid (Ext.then X1.out hx)
    have B2 := hid (B1.out.keep hx)
    have R2 := hid (R1.out.keep hx)
    have HT := hid ho
    have HLT := hid R1.out.lt
    have HLW := hid (Nat.le_of_lt (Nat.lt_trans (Nat.lt_succ_self _) R1.out.lt))
    have HSZ := hid hx.size
    obtain ⟨A2, n2, c2, D2, m2, d2, rfl⟩ := ho.V.shape
    clear hx p0 p1 ho
    have p0 := B2.out.cell 0
    have p1 := B2.out.cell 1
    have f0 := B2.out.frozen 0
    have f1 := B2.out.frozen 1
    go_wp2_with fail
    have X3 := hid (Ext.put (Ext.put X2.out (p := ⟨w.heap.size, 0, none⟩) (Nat.le_refl _) (.slice A2 n2 c2)) (p := ⟨w.heap.size, 1, none⟩) (Nat.le_refl _) (.slice D2 m2 d2))
    have B3 := hid (((B2.out.set 0 (.slice A2 n2 c2)).set 1 (.slice D2 m2 d2)).cast (cs' := #[.slice A2 n2 c2, .slice D2 m2 d2]) (by simp))
    have R3 := hid ((R2.out.far (p := ⟨w.heap.size, 0, none⟩) (by simp) (.slice A2 n2 c2)).far (p := ⟨w.heap.size, 1, none⟩) (by simp) (.slice D2 m2 d2))
    have HTO := hid (show TbO ((w2.setCell ⟨w.heap.size, 0, none⟩ (.slice A2 n2 c2)).setCell ⟨w.heap.size, 1, none⟩ (.slice D2 m2 d2)) w1.heap.size w.heap.size t from ⟨_, _, B3.out, by have := HLT.out; omega, (HT.out.past (p := ⟨w.heap.size, 0, none⟩) (by have := HLT.out; simp only; omega) _).past (p := ⟨w.heap.size, 1, none⟩) (by have := HLT.out; simp only; omega) _⟩)
    refine Calls.mono (HFF.out w1.heap.size w.heap.size _ X3.out (Nat.le_refl _) (by have := HLT.out; omega) (by rw [size_put, size_put]; exact HSZ.out) HTO.out) ?_
    rintro e w4 ⟨rfl, hg, hx⟩
    have X4 := hid (hx.out X3.out (Nat.le_refl _) (Nat.le_of_lt (by have := HLT.out; omega)))
    have R4 := hid (hx.blk R3.out HLT.out (by omega))
    clear hx p0 p1 f0 f1
    by_cases hE : E = 0
    · subst hE
      obtain ⟨u0, u1, hb4, hv4⟩ := hg rfl
      obtain ⟨A5, n5, c5, D5, m5, d5, e5⟩ := hv4.V.shape
      obtain ⟨rfl, rfl⟩ : u0 = .slice A5 n5 c5 ∧ u1 = .slice D5 m5 d5 := by
        injection e5 with e5
        have e6 := congrArg Array.toList e5
        simp only [List.cons.injEq, and_true] at e6
        exact e6
      have HB4 := hid hb4
      have HV4 := hid hv4
      clear hg hv4 hb4 e5
      have p0 := HB4.out.cell 0
      have p1 := HB4.out.cell 1
      have q0 := R4.out.cell 0
      have q1 := R4.out.cell 1
      have f0 := R4.out.frozen 0
      have f1 := R4.out.frozen 1
      go_wp2
      have HBF := hid (((R4.out.set 0 (.slice A5 n5 c5)).set 1 (.slice D5 m5 d5)).cast (cs' := #[.slice A5 n5 c5, .slice D5 m5 d5]) (by simp))
      have XF := hid (Ext.put (Ext.put X4.out (p := ⟨w.heap.size + 1, 0, none⟩) (by simp only; omega) (.slice A5 n5 c5)) (p := ⟨w.heap.size + 1, 1, none⟩) (by simp only; omega) (.slice D5 m5 d5))
      refine bodyPost_ret (results_blk2 rfl _ _ (w.heap.size + 1) 25 _ _ rfl HBF.out Tryz.underlying25 rfl (by kernel_rfl)) rfl ?_
      exact ⟨_, rfl, ((HV4.out.put (p := ⟨w.heap.size + 1, 0, none⟩) HLT.out _).put (p := ⟨w.heap.size + 1, 1, none⟩) HLT.out _).low HLW.out, XF.out⟩
    · have e1 : ((E : Int) == 0) = false := beq_eq_false_iff_ne.2 (by omega)
      have e2 : ((E : Int) != 0) = true := by simp; omega
      have HRS := hid (Tb.res_no hE t')
      clear hg hE
      have q0 := R4.out.cell 0
      have q1 := R4.out.cell 1
      have f0 := R4.out.frozen 0
      have f1 := R4.out.frozen 1
      go_wp2
      have HBF := hid (((R4.out.set 0 (.slice none 0 0)).set 1 (.slice none 0 0)).cast (cs' := #[.slice none 0 0, .slice none 0 0]) (by simp))
      have XF := hid (Ext.put (Ext.put X4.out (p := ⟨w.heap.size + 1, 0, none⟩) (by simp only; omega) (.slice none 0 0)) (p := ⟨w.heap.size + 1, 1, none⟩) (by simp only; omega) (.slice none 0 0))
      refine bodyPost_ret (results_blk2 rfl _ _ (w.heap.size + 1) 25 _ _ rfl HBF.out Tryz.underlying25 rfl (by kernel_rfl)) rfl ?_
      exact ⟨_, rfl, by rw [HRS.out]; exact tb0_L _ _, XF.out⟩
  · obtain ⟨F, hF⟩ : ∃ F, F = Tb.tbck t := ⟨_, rfl⟩
    rw [if_pos h0]
    rw [← hF] at HC h0 ⊢
    have HRS := hid (Tb.res_no h0 t')
    have e1 : ((F : Int) == 0) = false := beq_eq_false_iff_ne.2 (by omega)
    have e2 : ((F : Int) != 0) = true := by simp; omega
    clear hv hb hR hF h0 HF
    go_enter Tryz.func39, Tryz.ntmps39
    go_wp2_with fail
    refine Calls.mono (HC.out _ XN.out) ?_
    rintro e w1 ⟨rfl, hx⟩
    have X1 := hid (Ext.then XN.out hx)
    have R4 := hid (BR.out.keep hx)
    clear hx XN BN BR
    have q0 := R4.out.cell 0
    have q1 := R4.out.cell 1
    have f0 := R4.out.frozen 0
    have f1 := R4.out.frozen 1
    go_wp2
    have HBF := hid (((R4.out.set 0 (.slice none 0 0)).set 1 (.slice none 0 0)).cast (cs' := #[.slice none 0 0, .slice none 0 0]) (by simp))
    have XF := hid (Ext.put (Ext.put X1.out (p := ⟨w.heap.size + 1, 0, none⟩) (by simp only; omega) (.slice none 0 0)) (p := ⟨w.heap.size + 1, 1, none⟩) (by simp only; omega) (.slice none 0 0))
    refine bodyPost_ret (results_blk2 rfl _ _ (w.heap.size + 1) 25 _ _ rfl HBF.out Tryz.underlying25 rfl (by kernel_rfl)) rfl ?_
    exact ⟨_, rfl, by rw [HRS.out]; exact tb0_L _ _, XF.out⟩
end Go.Proofs.YtolhifnlahllnaaGreatDoor
end
