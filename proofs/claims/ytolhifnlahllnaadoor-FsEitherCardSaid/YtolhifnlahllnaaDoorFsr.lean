/- Files: plain: what an op does, what a crash leaves. No program in sight. -/
import Derived.Test.YtolhifnlahllnaaDoorFsq
import Derived.Test.YtolhifnlahllnaaDoorFsj
namespace Hy.Fs
open Go
/-- without a name -/
def wout (l : List Ent) (s : ByteArray) : List Ent := l.filter fun x => decide (x.1 ≠ s)
/-- with an entry more, or another one, of its name -/
def wth (l : List Ent) (x : Ent) : List Ent := (l.filter fun y => decide (key y < key x)) ++ x :: (l.filter fun y => decide (key x < key y))
theorem plc_split {b : List Dct.T} (hb : b.Pairwise (· < ·)) (s : Dct.T) : ∃ p, p ≤ b.length ∧ Dct.plc b s = p ∧ (∀ k (hk : k < b.length), k < p → b[k] < s) ∧ (∀ k (hk : k < b.length), p ≤ k → ¬ b[k] < s) := by
  have : ∃ p, p ≤ b.length ∧ (∀ k (hk : k < b.length), k < p → b[k] < s) ∧ (∀ k (hk : k < b.length), p ≤ k → ¬ b[k] < s) := by
    induction b with
    | nil => exact ⟨0, Nat.le_refl _, fun k _ h => absurd h (Nat.not_lt_zero _), fun k hk => absurd hk (by simp)⟩
    | cons x b ih =>
      by_cases hx : x < s
      · obtain ⟨p, hp, h1, h2⟩ := ih (List.pairwise_cons.1 hb).2
        refine ⟨p + 1, by simpa using hp, fun k hk hkp => ?_, fun k hk hkp => ?_⟩
        · cases k with
          | zero => exact hx
          | succ k => exact h1 k (by simpa using hk) (by omega)
        · cases k with
          | zero => omega
          | succ k => exact h2 k (by simpa using hk) (by omega)
      · exact ⟨0, Nat.zero_le _, fun k _ h => absurd h (Nat.not_lt_zero _), fun k hk _ => Dct.up_ge hb (Nat.zero_le k) hk hx⟩
  obtain ⟨p, hp, h1, h2⟩ := this
  exact ⟨p, hp, Dct.plc_of hp h1 h2, h1, h2⟩
section
variable {l : List Ent} (hs : (nms l).Pairwise (· < ·)) {s : Dct.T}
include hs
theorem plc_at_lt {k : Nat} (hk : k < l.length) : k < Dct.plc (nms l) s ↔ key l[k] < s := by
  obtain ⟨p, hp, e, h1, h2⟩ := plc_split hs s
  have hk' : k < (nms l).length := by rw [nms_len]; exact hk
  rw [e]
  constructor
  · intro h; have := h1 k hk' h; rwa [nms_at] at this
  · intro h
    rcases Nat.lt_or_ge k p with h3 | h3
    · exact h3
    · have := h2 k hk' h3; rw [nms_at] at this; exact absurd h this
theorem take_lt {x : Ent} (hx : x ∈ l.take (Dct.plc (nms l) s)) : key x < s := by
  obtain ⟨k, hk, rfl⟩ := List.mem_iff_getElem.1 hx
  rw [List.length_take] at hk
  rw [List.getElem_take]
  exact (plc_at_lt hs (by omega)).1 (by omega)
theorem drop_ge {x : Ent} (hx : x ∈ l.drop (Dct.plc (nms l) s)) : ¬ key x < s := by
  obtain ⟨k, hk, rfl⟩ := List.mem_iff_getElem.1 hx
  rw [List.length_drop] at hk
  rw [List.getElem_drop]
  intro h
  have := (plc_at_lt hs (k := Dct.plc (nms l) s + k) (by omega)).2 h
  omega
/-- those that are less -/
theorem filter_lt : l.filter (fun y => decide (key y < s)) = l.take (Dct.plc (nms l) s) := by
  conv => lhs; rw [← List.take_append_drop (Dct.plc (nms l) s) l]
  rw [List.filter_append, List.filter_eq_self.2 (fun x hx => decide_eq_true (take_lt hs hx)), List.filter_eq_nil_iff.2 (fun x hx => by simpa using drop_ge hs hx), List.append_nil]
/-- a name that is there stands at its place -/
theorem at_plc (h : s ∈ nms l) : ∃ hk : Dct.plc (nms l) s < l.length, key l[Dct.plc (nms l) s] = s := by
  have h1 := Dct.plc_lt hs h
  have h2 := Dct.plc_mem hs h
  rw [List.getElem?_eq_getElem h1] at h2
  injection h2 with h2
  rw [nms_at] at h2
  exact ⟨by rwa [nms_len] at h1, h2⟩
theorem drop1_gt (h : s ∈ nms l) {x : Ent} (hx : x ∈ l.drop (Dct.plc (nms l) s + 1)) : s < key x := by
  obtain ⟨hk, he⟩ := at_plc hs h
  obtain ⟨k, hk2, rfl⟩ := List.mem_iff_getElem.1 hx
  rw [List.length_drop] at hk2
  rw [List.getElem_drop]
  have := List.pairwise_iff_getElem.1 hs (Dct.plc (nms l) s) (Dct.plc (nms l) s + 1 + k) (by rw [nms_len]; exact hk) (by rw [nms_len]; omega) (by omega)
  rw [nms_at, nms_at] at this
  rw [show l[Dct.plc (nms l) s].1.data.toList = s from he] at this
  exact this
theorem drop_gt (h : s ∉ nms l) {x : Ent} (hx : x ∈ l.drop (Dct.plc (nms l) s)) : s < key x := by
  have h1 := drop_ge hs hx
  rcases Dct.tot3 (key x) s with h2 | h2 | h2
  · exact absurd h2 h1
  · exact absurd (mem_nms.2 ⟨x, List.mem_of_mem_drop hx, h2⟩) h
  · exact h2
theorem filter_gt_no (h : s ∉ nms l) : l.filter (fun y => decide (s < key y)) = l.drop (Dct.plc (nms l) s) := by
  conv => lhs; rw [← List.take_append_drop (Dct.plc (nms l) s) l]
  rw [List.filter_append, List.filter_eq_nil_iff.2 (fun x hx => by simpa using Dct.lt_asy (take_lt hs hx)), List.filter_eq_self.2 (fun x hx => decide_eq_true (drop_gt hs h hx)), List.nil_append]
theorem filter_gt_yes (h : s ∈ nms l) : l.filter (fun y => decide (s < key y)) = l.drop (Dct.plc (nms l) s + 1) := by
  obtain ⟨hk, he⟩ := at_plc hs h
  conv => lhs; rw [← List.take_append_drop (Dct.plc (nms l) s) l, List.drop_eq_getElem_cons hk]
  rw [List.filter_append, List.filter_eq_nil_iff.2 (fun x hx => by simpa using Dct.lt_asy (take_lt hs hx)), List.nil_append, List.filter_cons, if_neg (by rw [he]; simp [Dct.lt_irr s]),
    List.filter_eq_self.2 (fun x hx => decide_eq_true (drop1_gt hs h hx))]
end
/-- an entry of another name is laid between -/
theorem wth_no {l : List Ent} (hs : (nms l).Pairwise (· < ·)) {x : Ent} (h : key x ∉ nms l) : wth l x = l.take (Dct.plc (nms l) (key x)) ++ x :: l.drop (Dct.plc (nms l) (key x)) := by
  unfold wth; rw [filter_lt hs, filter_gt_no hs h]
theorem wth_yes {l : List Ent} (hs : (nms l).Pairwise (· < ·)) {x : Ent} (h : key x ∈ nms l) : wth l x = l.set (Dct.plc (nms l) (key x)) x := by
  obtain ⟨hk, he⟩ := at_plc hs h
  unfold wth
  rw [filter_lt hs, filter_gt_yes hs h, List.set_eq_take_append_cons_drop, if_pos hk]
theorem wout_no {l : List Ent} {s : ByteArray} (h : s.data.toList ∉ nms l) : wout l s = l := by
  unfold wout
  refine List.filter_eq_self.2 fun x hx => decide_eq_true fun e => h ?_
  exact mem_nms.2 ⟨x, hx, by rw [← e]⟩
theorem wout_yes {l : List Ent} (hs : (nms l).Pairwise (· < ·)) {s : ByteArray} (h : s.data.toList ∈ nms l) :
    wout l s = l.take (Dct.plc (nms l) s.data.toList) ++ l.drop (Dct.plc (nms l) s.data.toList + 1) := by
  obtain ⟨hk, he⟩ := at_plc hs h
  unfold wout
  conv => lhs; rw [← List.take_append_drop (Dct.plc (nms l) s.data.toList) l, List.drop_eq_getElem_cons hk]
  have e1 : (l.take (Dct.plc (nms l) s.data.toList)).filter (fun x => decide (x.1 ≠ s)) = l.take (Dct.plc (nms l) s.data.toList) :=
    List.filter_eq_self.2 (fun x hx => decide_eq_true fun e => by have := take_lt hs hx; rw [show key x = s.data.toList by rw [← e]] at this; exact Dct.lt_irr _ this)
  have e2 : (l.drop (Dct.plc (nms l) s.data.toList + 1)).filter (fun x => decide (x.1 ≠ s)) = l.drop (Dct.plc (nms l) s.data.toList + 1) :=
    List.filter_eq_self.2 (fun x hx => decide_eq_true fun e => by have := drop1_gt hs h hx; rw [show key x = s.data.toList by rw [← e]] at this; exact Dct.lt_irr _ this)
  rw [List.filter_append, e1, List.filter_cons, if_neg (by rw [decide_eq_true_iff]; exact fun hne => hne (ba_eq he)), e2]
theorem nof_no {l : List Ent} {s : ByteArray} (h : s.data.toList ∉ nms l) : nof l s = -1 := by
  rcases nof_mem l s with h1 | ⟨x, hx, h1, _⟩
  · exact h1
  · exact absurd (mem_nms.2 ⟨x, hx, by rw [← h1]⟩) h
theorem nof_yes {l : List Ent} (hs : (nms l).Pairwise (· < ·)) {x : Ent} (hx : x ∈ l) : nof l x.1 = x.2 := by
  induction l with
  | nil => simp at hx
  | cons y r ih =>
    simp only [nof]
    have hs' : (nms r).Pairwise (· < ·) := (List.pairwise_cons.1 hs).2
    rcases List.mem_cons.1 hx with rfl | hx
    · rw [if_pos rfl]
    · rw [if_neg, ih hs' hx]
      intro e
      have h1 : key y < key x := (List.pairwise_cons.1 hs).1 _ (mem_nms.2 ⟨x, hx, rfl⟩)
      rw [show key y = key x by show y.1.data.toList = x.1.data.toList; rw [e]] at h1
      exact Dct.lt_irr _ h1
theorem nof_at {l : List Ent} (hs : (nms l).Pairwise (· < ·)) {s : ByteArray} (h : s.data.toList ∈ nms l) : ∃ hk : Dct.plc (nms l) s.data.toList < l.length, l[Dct.plc (nms l) s.data.toList].1 = s ∧ nof l s = l[Dct.plc (nms l) s.data.toList].2 := by
  obtain ⟨hk, he⟩ := at_plc hs h
  have e := ba_eq he
  refine ⟨hk, e, ?_⟩
  have := nof_yes hs (List.getElem_mem hk)
  rwa [e] at this
theorem nof_iff {l : List Ent} {n : Int} (hl : Good n l) {s : ByteArray} : nof l s < 0 ↔ s.data.toList ∉ nms l := by
  constructor
  · intro h hm
    obtain ⟨hk, _, e⟩ := nof_at hl.2.1 hm
    have := (hl.1 _ (List.getElem_mem hk)).2.1
    omega
  · intro h; rw [nof_no h]; omega
/-! ### ops -/
/-- the text of a node, as it is now -/
def setL (l : List Nod) (k : Nat) (t : ByteArray) : List Nod := l.modify k fun x => (t, x.2)
def synL (l : List Nod) (k : Nat) : List Nod := l.modify k fun x => (x.1, x.1)
abbrev fs0 : FSy := ([], [], [])
/-- a file is written -/
def wrt (f : FSy) (s t : ByteArray) : FSy × Nat :=
  if nof f.2.1 s < 0 then (if f.1.length = 24 then (fs0, 2) else ((f.1 ++ [(t, ByteArray.empty)], wth f.2.1 (s, (f.1.length : Nat)), f.2.2), 0))
  else ((setL f.1 (nof f.2.1 s).toNat t, f.2.1, f.2.2), 0)
/-- an op that is of its form, of a file system that is right -/
def raw (f : FSy) (o : Opn) : FSy × Nat :=
  if o.1 = 1 then wrt f o.2.1 o.2.2.2
  else if o.1 = 5 then (swp (f.1, f.2.1, f.2.1), 0)
  else if nof f.2.1 o.2.1 < 0 then (fs0, 5)
  else if o.1 = 2 then (swp (synL f.1 (nof f.2.1 o.2.1).toNat, f.2.1, f.2.2), 0)
  else if o.1 = 3 then (swp (f.1, wth (wout f.2.1 o.2.1) (o.2.2.1, nof f.2.1 o.2.1), f.2.2), 0)
  else (swp (f.1, wout f.2.1 o.2.1, f.2.2), 0)
@[irreducible] def don (f : FSy) (o : Opn) : FSy × Nat := if fsck f ≠ 0 then (fs0, fsck f) else if opck o ≠ 0 then (fs0, opck o) else raw f o
theorem don_bad {f : FSy} {o : Opn} (h : fsck f ≠ 0) : don f o = (fs0, fsck f) := by unfold don; rw [if_pos h]
theorem don_form {f : FSy} {o : Opn} (h : fsck f = 0) (h2 : opck o ≠ 0) : don f o = (fs0, opck o) := by unfold don; rw [if_neg (by omega), if_pos h2]
theorem don_raw {f : FSy} {o : Opn} (h : fsck f = 0) (h2 : opck o = 0) : don f o = raw f o := by unfold don; rw [if_neg (by omega), if_neg (by omega)]
/-- did it land? -/
def lnd (m i : Nat) : Bool := decide (m / 2 ^ i % 2 = 1)
def crn (m : Nat) : Nat → List Nod → List Nod
  | _, [] => []
  | i, x :: r => (if lnd m i then (x.1, x.1) else (x.2, x.2)) :: crn m (i + 1) r
theorem crn_len (m : Nat) (l : List Nod) : ∀ i, (crn m i l).length = l.length := by
  induction l with
  | nil => intro i; rfl
  | cons x r ih => intro i; simp only [crn, List.length_cons, ih]
theorem crn_at (m : Nat) (l : List Nod) : ∀ (i k : Nat) (h : k < l.length), (crn m i l)[k]? = some (if lnd m (i + k) then (l[k].1, l[k].1) else (l[k].2, l[k].2)) := by
  induction l with
  | nil => intro i k h; simp at h
  | cons x r ih =>
    intro i k h
    cases k with
    | zero => simp [crn]
    | succ k =>
      simp only [crn, List.getElem?_cons_succ, List.getElem_cons_succ]
      rw [ih (i + 1) k (by simpa using h), show i + 1 + k = i + (k + 1) by omega]
def crd (f : FSy) (m : Nat) : List Ent := if lnd m 63 then f.2.1 else f.2.2
@[irreducible] def crs (f : FSy) (m : Nat) : FSy × Nat := if fsck f ≠ 0 then (fs0, fsck f) else (swp (crn m 0 f.1, crd f m, crd f m), 0)
theorem crs_bad {f : FSy} {m : Nat} (h : fsck f ≠ 0) : crs f m = (fs0, fsck f) := by unfold crs; rw [if_pos h]
theorem crs_ok {f : FSy} {m : Nat} (h : fsck f = 0) : crs f m = (swp (crn m 0 f.1, crd f m, crd f m), 0) := by unfold crs; rw [if_neg (by omega)]
/-- ops, one behind the other -/
def run : FSy → List Opn → FSy × Nat
  | f, [] => (f, 0)
  | f, o :: r => if (don f o).2 ≠ 0 then (fs0, (don f o).2) else run (don f o).1 r
@[irreducible] def ply (f : FSy) (l : List Opn) : FSy × Nat := if fsck f ≠ 0 then (fs0, fsck f) else if 64 < l.length then (fs0, 2) else run f l
theorem ply_bad {f : FSy} {l : List Opn} (h : fsck f ≠ 0) : ply f l = (fs0, fsck f) := by unfold ply; rw [if_pos h]
theorem ply_many {f : FSy} {l : List Opn} (h : fsck f = 0) (h2 : 64 < l.length) : ply f l = (fs0, 2) := by unfold ply; rw [if_neg (by omega), if_pos h2]
theorem ply_run {f : FSy} {l : List Opn} (h : fsck f = 0) (h2 : ¬ 64 < l.length) : ply f l = run f l := by unfold ply; rw [if_neg (by omega), if_neg h2]
end Hy.Fs
