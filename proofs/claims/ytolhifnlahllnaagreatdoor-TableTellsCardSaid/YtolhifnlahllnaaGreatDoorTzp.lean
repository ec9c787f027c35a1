/- Tables, plain: what the document answers is what the program answers. No program in sight. -/
import Derived.Test.YtolhifnlahllnaaGreatDoorTly
import Derived.Test.YtolhifnlahllnaaGreatDoorTkh
section
namespace Hy.Tb
open Go
/-- the columns of other names -/
def wo (s : ByteArray) (c : List Ent) : List Ent := c.filter fun x => !decide (x.1 = s)
def wod {α : Type} (s : ByteArray) (c : List Ent) (d : List α) : List α := ((c.zip d).filter fun x => !decide (x.1.1 = s)).map (·.2)
theorem wo_no {s : ByteArray} {c : List Ent} {k : Nat} (hk : k < c.length) (h : c[k].1 = s) : wo s (c.take (k + 1)) = wo s (c.take k) := by
  unfold wo; rw [List.take_succ_eq_append_getElem hk, List.filter_append]; simp [h]
theorem wo_yes {s : ByteArray} {c : List Ent} {k : Nat} (hk : k < c.length) (h : c[k].1 ≠ s) : wo s (c.take (k + 1)) = wo s (c.take k) ++ [c[k]] := by
  unfold wo; rw [List.take_succ_eq_append_getElem hk, List.filter_append]; simp [h]
theorem wod_no {α : Type} {s : ByteArray} {c : List Ent} {d : List α} {k : Nat} (hk : k < c.length) (hd : k < d.length) (h : c[k].1 = s) : wod s (c.take (k + 1)) (d.take (k + 1)) = wod s (c.take k) (d.take k) := by
  unfold wod
  rw [List.take_succ_eq_append_getElem hk, List.take_succ_eq_append_getElem hd, List.zip_append (by simp; omega), List.filter_append]
  simp [h]
theorem wod_yes {α : Type} {s : ByteArray} {c : List Ent} {d : List α} {k : Nat} (hk : k < c.length) (hd : k < d.length) (h : c[k].1 ≠ s) : wod s (c.take (k + 1)) (d.take (k + 1)) = wod s (c.take k) (d.take k) ++ [d[k]] := by
  unfold wod
  rw [List.take_succ_eq_append_getElem hk, List.take_succ_eq_append_getElem hd, List.zip_append (by simp; omega), List.filter_append]
  simp [h]
theorem wo_all {s : ByteArray} {c : List Ent} (h : s ∉ c.map (·.1)) : wo s c = c := List.filter_eq_self.2 fun x hx => by
  have : x.1 ≠ s := fun e => h (e ▸ List.mem_map_of_mem hx)
  simp [this]
theorem wod_cons {α : Type} (s : ByteArray) (x : Ent) (r : List Ent) (y : α) (d : List α) : wod s (x :: r) (y :: d) = if x.1 = s then wod s r d else y :: wod s r d := by
  unfold wod
  rw [List.zip_cons_cons, List.filter_cons]
  by_cases h : x.1 = s
  · simp [h]
  · simp [h]
theorem wo_cons (s : ByteArray) (x : Ent) (r : List Ent) : wo s (x :: r) = if x.1 = s then wo s r else x :: wo s r := by
  unfold wo
  rw [List.filter_cons]
  by_cases h : x.1 = s
  · simp [h]
  · simp [h]
theorem wod_all {α : Type} {s : ByteArray} (c : List Ent) : ∀ (d : List α), s ∉ c.map (·.1) → c.length = d.length → wod s c d = d := by
  induction c with
  | nil => intro d _ hl; cases d with
    | nil => rfl
    | cons y d => simp at hl
  | cons x r ih =>
    intro d hn hl
    cases d with
    | nil => simp at hl
    | cons y d =>
      rw [List.map_cons, List.mem_cons] at hn
      rw [wod_cons, if_neg (fun e => hn (.inl e.symm)), ih d (fun e => hn (.inr e)) (by simpa using hl)]
theorem wo_erase {s : ByteArray} (c : List Ent) : ∀ (k : Nat) (hk : k < c.length), (c.map (·.1)).Nodup → c[k].1 = s → wo s c = c.eraseIdx k := by
  induction c with
  | nil => intro k hk; simp at hk
  | cons x r ih =>
    intro k hk hn he
    rw [List.map_cons, List.nodup_cons] at hn
    cases k with
    | zero =>
      have he : x.1 = s := he
      rw [wo_cons, if_pos he, wo_all (by rw [← he]; exact hn.1)]; rfl
    | succ k =>
      have hk' : k < r.length := by simpa using hk
      have he : r[k].1 = s := by simpa using he
      have hx : x.1 ≠ s := fun e => hn.1 (by rw [e, ← he]; exact List.mem_map_of_mem (List.getElem_mem hk'))
      rw [wo_cons, if_neg hx, ih k hk' hn.2 he]; rfl
theorem wod_erase {α : Type} {s : ByteArray} (c : List Ent) : ∀ (d : List α) (k : Nat) (hk : k < c.length), (c.map (·.1)).Nodup → c.length = d.length → c[k].1 = s → wod s c d = d.eraseIdx k := by
  induction c with
  | nil => intro d k hk; simp at hk
  | cons x r ih =>
    intro d k hk hn hl he
    rw [List.map_cons, List.nodup_cons] at hn
    cases d with
    | nil => simp at hl
    | cons y d =>
      have hl' : r.length = d.length := by simpa using hl
      cases k with
      | zero =>
        have he : x.1 = s := he
        rw [wod_cons, if_pos he, wod_all r d (by rw [← he]; exact hn.1) hl']; rfl
      | succ k =>
        have hk' : k < r.length := by simpa using hk
        have he : r[k].1 = s := by simpa using he
        have hx : x.1 ≠ s := fun e => hn.1 (by rw [e, ← he]; exact List.mem_map_of_mem (List.getElem_mem hk'))
        rw [wod_cons, if_neg hx, ih d k hk' hn.2 hl' he]; rfl
theorem wod_map {α β : Type} (f : α → β) (s : ByteArray) (c : List Ent) : ∀ (d : List α), (wod s c d).map f = wod s c (d.map f) := by
  induction c with
  | nil => intro d; simp [wod]
  | cons x r ih =>
    intro d
    cases d with
    | nil => simp [wod]
    | cons y d =>
      rw [List.map_cons, wod_cons, wod_cons]
      split
      · exact ih d
      · rw [List.map_cons, ih d]
theorem wo_len (s : ByteArray) (c : List Ent) : (wo s c).length ≤ c.length := List.length_filter_le _ _
theorem wod_len {α : Type} (s : ByteArray) (c : List Ent) (d : List α) : (wod s c d).length ≤ c.length := by
  unfold wod; rw [List.length_map]
  exact Nat.le_trans (List.length_filter_le _ _) (by rw [List.length_zip]; omega)
theorem drop_law {t : Tab} {s : ByteArray} (h : Right t) (hs : s ∈ t.1.map (·.1)) : (wo s t.1, wod s t.1 t.2) = dropT t s := by
  obtain ⟨hk, e, _⟩ := at_name h hs
  unfold dropT
  rw [wo_erase t.1 _ hk h.nms e, wod_erase t.1 t.2 _ hk h.nms h.len e]
/-- a column named anew -/
def ren1 (s n : ByteArray) (c : Ent) : Ent := if c.1 = s then (n, c.2) else c
theorem ren_law {t : Tab} {s n : ByteArray} (h : Right t) (hs : s ∈ t.1.map (·.1)) : (t.1.map (ren1 s n), t.2) = renT t s n := by
  obtain ⟨hk, e, _⟩ := at_name h hs
  have hl : (renT t s n).1.length = t.1.length := by simp [renT]
  refine Prod.ext ?_ rfl
  apply List.ext_getElem
  · rw [List.length_map, hl]
  · intro j h1 h2
    rw [List.length_map] at h1
    rw [List.getElem_map, ren_get j h1]
    unfold ren1
    by_cases hj : at0 t s = j
    · subst hj
      rw [if_pos e, if_pos rfl]
    · rw [if_neg hj, if_neg (fun e' => hj (nodup_get h.nms (i := at0 t s) (j := j) (by simpa using hk) (by simpa using h1) (by simp only [List.getElem_map]; rw [e, e'])))]
theorem ren_six {t : Tab} {s n : ByteArray} (h : Right t) (hs : ¬ ixc t.1 s 0 < 0) (hn : Nm.nm n.data.toList = true) (hne : n ≠ s) (hi : 0 ≤ ixc t.1 n 0) : renE t s n = 6 := by
  have hx : ixc t.1 n 0 ≠ ixc t.1 s 0 := fun e => hne (by
    have hs' : s ∈ t.1.map (·.1) := Classical.byContradiction fun hm => hs ((ixc_neg _ _ _).2 hm)
    have hn' : n ∈ t.1.map (·.1) := Classical.byContradiction fun hm => by have := (ixc_neg t.1 n 0).2 hm; omega
    obtain ⟨i, hi', e1, e2⟩ := ixc_mem h.nms hs'
    obtain ⟨j, hj', e3, e4⟩ := ixc_mem h.nms hn'
    obtain rfl : i = j := by omega
    rw [← e4, e2])
  unfold renE
  rw [if_neg (by rw [h.ck]; decide), if_neg hs, if_neg (by rw [hn]; decide), if_pos ⟨hi, hx⟩]
theorem renE_bad {t : Tab} {s n : ByteArray} (h : tbck t ≠ 0) : renE t s n = tbck t := by unfold renE; rw [if_pos h]
theorem renE_none {t : Tab} {s n : ByteArray} (h : tbck t = 0) (h2 : ixc t.1 s 0 < 0) : renE t s n = 5 := by unfold renE; rw [if_neg (by simp [h]), if_pos h2]
theorem renE_name {t : Tab} {s n : ByteArray} (h : tbck t = 0) (h2 : ¬ ixc t.1 s 0 < 0) (h3 : Nm.nm n.data.toList = false) : renE t s n = 1 := by unfold renE; rw [if_neg (by simp [h]), if_neg h2, if_pos h3]
theorem not_neg {l : List Ent} {s : ByteArray} (h : ¬ ixc l s 0 < 0) : s ∈ l.map (·.1) := Classical.byContradiction fun hm => h ((ixc_neg _ _ _).2 hm)
theorem dropE_bad {t : Tab} {s : ByteArray} (h : tbck t ≠ 0) : dropE t s = tbck t := by unfold dropE; rw [if_pos h]
theorem dropE_none {t : Tab} {s : ByteArray} (h : tbck t = 0) (h2 : ixc t.1 s 0 < 0) : dropE t s = 5 := by unfold dropE; rw [if_neg (by simp [h]), if_pos h2]
/-- rows at places -/
def pick (t : Tab) (L : List Nat) : Tab := (t.1, t.2.map fun l => L.map fun i => l.getD i Cnd.O)
theorem keep_law (t : Tab) (p : List Cnd) : pick t ((List.range (many t)).filter (tr p t.2)) = keepT t p := rfl
def selF (a b : Int) (i : Nat) : Bool := decide (a ≤ (i : Int) ∧ (i : Int) - a < b)
theorem range_sel (a b n : Nat) : (List.range n).filter (selF a b) = ((List.range n).drop a).take b := by
  induction n with
  | zero => simp
  | succ n ih =>
    rw [List.range_succ, List.filter_append, ih]
    by_cases h : n < a
    · have e : selF a b n = false := by unfold selF; simp; omega
      rw [List.drop_of_length_le (by simp; omega), List.drop_of_length_le (by simp; omega)]
      simp [e]
    · rw [List.drop_append_of_le_length (by simp; omega), List.take_append]
      congr 1
      rw [List.length_drop, List.length_range]
      by_cases h2 : n - a < b
      · have e : selF a b n = true := by unfold selF; simp; omega
        obtain ⟨q, hq⟩ : ∃ q, b - (n - a) = q + 1 := ⟨b - (n - a) - 1, by omega⟩
        simp [e, hq]
      · have e : selF a b n = false := by unfold selF; simp; omega
        simp [e, show b - (n - a) = 0 by omega]
theorem slice_sel (l : List Cel) (a b : Nat) : ((List.range l.length).filter (selF a b)).map (fun i => l.getD i Cnd.O) = (l.drop a).take b := by
  have e : (List.range l.length).map (fun i => l.getD i Cnd.O) = l := by
    apply List.ext_getElem
    · simp
    · intro i h1 h2
      simp [List.getD_eq_getElem?_getD, h2]
  rw [range_sel, List.map_take, List.map_drop, e]
theorem slice_law {t : Tab} (h : Right t) (a b : Nat) : pick t ((List.range (many t)).filter (selF a b)) = sliceT t a b := by
  unfold pick sliceT
  refine Prod.ext rfl ?_
  refine List.map_congr_left fun l hl => ?_
  rw [← h.row l hl]
  simpa using slice_sel l a b
theorem sliceE_bad {t : Tab} {a b : Int} (h : tbck t ≠ 0) : sliceE t a b = tbck t := by unfold sliceE; rw [if_pos h]
theorem sliceE_range {t : Tab} {a b : Int} (h : tbck t = 0) (h2 : a < 0 ∨ b < 0) : sliceE t a b = 3 := by unfold sliceE; rw [if_neg (by simp [h]), if_pos h2]
theorem keepE_bad {t : Tab} {p : List Cnd} (h : tbck t ≠ 0) : keepE t p = tbck t := by unfold keepE; rw [if_pos h]
theorem keepE_chk {t : Tab} {p : List Cnd} (h : tbck t = 0) : keepE t p = Cnd.chk (knds t.1) p := by unfold keepE; rw [if_neg (by simp [h])]
theorem redE_bad {t : Tab} {s : ByteArray} {p : List Cnd} (h : tbck t ≠ 0) : redE t s p = tbck t := by unfold redE; rw [if_pos h]
theorem redE_none {t : Tab} {s : ByteArray} {p : List Cnd} (h : tbck t = 0) (h2 : ixc t.1 s 0 < 0) : redE t s p = 5 := by unfold redE; rw [if_neg (by simp [h]), if_pos h2]
theorem redE_chk {t : Tab} {s : ByteArray} {p : List Cnd} (h : tbck t = 0) (h2 : ¬ ixc t.1 s 0 < 0) : redE t s p = Cnd.chk (knds t.1) p := by unfold redE; rw [if_neg (by simp [h]), if_neg h2]
theorem addE_bad {t : Tab} {c : Ent} {x : Cel} (h : tbck t ≠ 0) : addE t c x = tbck t := by unfold addE; rw [if_pos h]
theorem addE_col {t : Tab} {c : Ent} {x : Cel} (h : tbck t = 0) (h2 : colck c t.1 ≠ 0) : addE t c x = colck c t.1 := by unfold addE; rw [if_neg (by simp [h]), if_pos h2]
theorem addE_six {t : Tab} {c : Ent} {x : Cel} (h : tbck t = 0) (h2 : colck c t.1 = 0) (h3 : t.1.length = 6) : addE t c x = 2 := by unfold addE; rw [if_neg (by simp [h]), if_neg (by simp [h2]), if_pos h3]
theorem addE_cel {t : Tab} {c : Ent} {x : Cel} (h : tbck t = 0) (h2 : colck c t.1 = 0) (h3 : t.1.length ≠ 6) : addE t c x = Cel.alone c.2 x := by unfold addE; rw [if_neg (by simp [h]), if_neg (by simp [h2]), if_neg h3]
theorem appE_bad {t s : Tab} (h : tbck t ≠ 0) : appE t s = tbck t := by unfold appE; rw [if_pos h]
theorem appE_w {t s : Tab} (h : tbck t = 0) : appE t s = appW t s := by unfold appE appW; rw [if_neg (by simp [h])]
/-- a column redacted -/
def redl (f : Nat → Bool) (n : Nat) (l : List Cel) : List Cel := (List.range n).map fun i => if f i = true then Cnd.O else l.getD i Cnd.O
theorem redl_succ (f : Nat → Bool) (n : Nat) (l : List Cel) : redl f (n + 1) l = redl f n l ++ [if f n = true then Cnd.O else l.getD n Cnd.O] := by
  unfold redl; rw [List.range_succ, List.map_append]; rfl
theorem redl_rc (f : Nat → Bool) (l : List Cel) : redl f l.length l = rc f l.length l := by
  unfold redl rc
  refine List.map_congr_left fun i hi => ?_
  have := List.mem_range.1 hi
  by_cases h : f i = true
  · rw [if_pos h, if_pos ⟨this, h⟩]
  · rw [if_neg h, if_neg (fun e => h e.2)]
theorem red_law {t : Tab} {s : ByteArray} {p : List Cnd} (h : Right t) (ha : at0 t s < t.2.length) : (t.1, t.2.set (at0 t s) (redl (tr p t.2) (many t) t.2[at0 t s])) = redT t s p := by
  unfold redT
  refine Prod.ext rfl ?_
  have hm := h.row _ (List.getElem_mem ha)
  have e : redl (tr p t.2) (many t) t.2[at0 t s] = rc (tr p t.2) (many t) t.2[at0 t s] := by
    rw [← hm]; exact redl_rc _ _
  rw [e]
  apply List.ext_getElem
  · simp
  · intro i h1 h2
    rw [List.getElem_modify, List.getElem_set]
    by_cases h3 : at0 t s = i
    · subst h3; rw [if_pos rfl]
    · rw [if_neg h3, if_neg h3]
theorem selC_names {t : Tab} (h : Right t) (ns : List ByteArray) (hn : ∀ n ∈ ns, n ∈ t.1.map (·.1)) : (selC t ns).map (·.1) = ns := proj_names h hn
theorem selC_ix {t : Tab} (h : Right t) (ns : List ByteArray) (n : ByteArray) (hn : ∀ n ∈ ns, n ∈ t.1.map (·.1)) : ixc (selC t ns) n 0 < 0 ↔ ¬ ∃ m ∈ ns, m = n := by
  rw [ixc_neg, selC_names h ns hn]
  simp
end Hy.Tb
end
