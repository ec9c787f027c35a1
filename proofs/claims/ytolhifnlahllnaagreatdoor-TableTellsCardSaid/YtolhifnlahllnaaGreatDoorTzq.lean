/- Tables, plain: what is redacted is gone, and nothing else. No program in sight. -/
import Derived.Test.YtolhifnlahllnaaGreatDoorTzp
import Derived.Test.YtolhifnlahllnaaGreatDoorQad
section
namespace Hy.Cnd
open Go
theorem ev_congr {f g : Cnd → Nat} {j : Int → Nat → Nat → Nat} (t : Tm) : t.ok → (∀ c ∈ t.code, sz c.1 = 0 → f c = g c) → t.ev f j = t.ev g j := by
  induction t with
  | lf c => intro hok h; exact h c (by simp [Tm.code]) hok
  | nt c u ih =>
    intro hok h
    have := ih hok.2 (fun d hd => h d (by simp [Tm.code, hd]))
    simp only [Tm.ev]; rw [this]
  | jn c a b iha ihb =>
    intro hok h
    have h1 := iha hok.2.1 (fun d hd => h d (by simp [Tm.code, hd]))
    have h2 := ihb hok.2.2 (fun d hd => h d (by simp [Tm.code, hd]))
    simp only [Tm.ev]; rw [h1, h2]
theorem val_congr {ks : List Int} {f g : Cnd → Nat} {j : Int → Nat → Nat → Nat} {p : List Cnd} (hp : chk ks p = 0) (h : ∀ c ∈ p, sz c.1 = 0 → f c = g c) : val f j p = val g j p := by
  obtain ⟨t, ht, rfl, _⟩ := right_tree hp
  rw [val_code _ _ _ ht, val_code _ _ _ ht]; exact ev_congr t ht h
theorem leaf_col {ks : List Int} {c : Cnd} (h : al ks c = 0) (hs : sz c.1 = 0) : c.1 ≤ 4 ∧ 0 ≤ c.2.1 := by
  have h1 := al_rng h
  unfold al at h
  rw [if_neg (by omega), if_pos hs] at h
  unfold lf at h
  constructor
  · unfold sz at hs
    by_cases h2 : c.1 = 5 ∨ c.1 = 6
    · rw [if_pos h2] at hs; omega
    · rw [if_neg h2] at hs
      by_cases h3 : c.1 = 7
      · rw [if_pos h3] at hs; omega
      · omega
  · by_cases h2 : c.2.1 < 0 ∨ (ks.length : Int) ≤ c.2.1
    · rw [if_pos h2] at h; omega
    · omega
end Hy.Cnd
namespace Hy.Tb
open Go
theorem alone_O (kd : Int) : Cel.alone kd Cnd.O = 0 := by
  unfold Cel.alone Cnd.O
  rw [if_neg (by simp), if_neg (by simp), if_neg (by simp)]
theorem redE_ok {t : Tab} {s : ByteArray} {p : List Cnd} : redE t s p = 0 ↔ Right t ∧ s ∈ t.1.map (·.1) ∧ Cnd.chk (knds t.1) p = 0 := by
  rw [← right_iff]
  by_cases h : tbck t = 0
  · by_cases h2 : ixc t.1 s 0 < 0
    · rw [redE_none h h2]
      exact ⟨fun e => by omega, fun e => absurd e.2.1 ((ixc_neg _ _ _).1 h2)⟩
    · rw [redE_chk h h2]
      exact ⟨fun e => ⟨h, not_neg h2, e⟩, fun e => e.2.2⟩
  · rw [redE_bad h]
    exact ⟨fun e => absurd e h, fun e => e.1⟩
theorem rc_at {f : Nat → Bool} {n : Nat} {l : List Cel} (i : Nat) (h : i < (rc f n l).length) : (rc f n l)[i] = if i < n ∧ f i = true then Cnd.O else l.getD i Cnd.O := by
  unfold rc; simp
theorem rc_getD {f : Nat → Bool} {n : Nat} {l : List Cel} {i : Nat} (h : i < l.length) : (rc f n l).getD i Cnd.O = if i < n ∧ f i = true then Cnd.O else l.getD i Cnd.O := by
  have h1 : i < (rc f n l).length := by rw [rc_len]; exact h
  rw [List.getD_eq_getElem?_getD, List.getElem?_eq_getElem h1, Option.getD_some, rc_at i h1]
theorem rc_mem {f : Nat → Bool} {n : Nat} {l : List Cel} {x : Cel} (h : x ∈ rc f n l) : x = Cnd.O ∨ x ∈ l := by
  obtain ⟨i, hi, rfl⟩ := List.mem_iff_getElem.1 h
  rw [rc_at i hi]
  rw [rc_len] at hi
  split
  · exact .inl rfl
  · right; rw [List.getD_eq_getElem?_getD, List.getElem?_eq_getElem hi]; exact List.getElem_mem hi
theorem red_get {t : Tab} {s : ByteArray} {p : List Cnd} (k : Nat) (hk : k < t.2.length) : (redT t s p).2[k]'(by simp [redT]; exact hk) = if at0 t s = k then rc (tr p t.2) (many t) t.2[k] else t.2[k] := by
  simp [redT, List.getElem_modify]
theorem red_len (t : Tab) (s : ByteArray) (p : List Cnd) : (redT t s p).2.length = t.2.length := by simp [redT]
theorem red_many (t : Tab) (s : ByteArray) (p : List Cnd) : many (redT t s p) = many t := by
  unfold many
  by_cases h : 0 < t.2.length
  · rw [List.getD_eq_getElem?_getD, List.getElem?_eq_getElem (by rw [red_len]; exact h), Option.getD_some, red_get 0 h, List.getD_eq_getElem?_getD, List.getElem?_eq_getElem h, Option.getD_some]
    split
    · rw [rc_len]
    · rfl
  · have h1 : t.2 = [] := List.eq_nil_of_length_eq_zero (by omega)
    have h2 : (redT t s p).2 = [] := List.eq_nil_of_length_eq_zero (by rw [red_len]; omega)
    rw [h1, h2]
theorem red_right {t : Tab} {s : ByteArray} {p : List Cnd} (h : Right t) : Right (redT t s p) := by
  refine ⟨h.six, by rw [red_len]; exact h.len, h.nms, h.ok, ?_, ?_, by rw [red_many]; exact h.lim⟩
  · intro k hk hk' x hx
    rw [red_len] at hk'
    rw [red_get k hk'] at hx
    show Cel.alone t.1[k].2 x = 0
    split at hx
    · rcases rc_mem hx with rfl | hx
      · exact alone_O _
      · exact h.cel k hk hk' x hx
    · exact h.cel k hk hk' x hx
  · intro l hl
    obtain ⟨k, hk, rfl⟩ := List.mem_iff_getElem.1 hl
    rw [red_len] at hk
    rw [red_many, red_get k hk]
    split
    · rw [rc_len]; exact h.row _ (List.getElem_mem hk)
    · exact h.row _ (List.getElem_mem hk)
theorem row_at {d : List (List Cel)} {i k : Nat} (h : k < (rowAt d i).length) (hk : k < d.length) : (rowAt d i)[k] = d[k].getD i Cnd.O := by simp [rowAt]
theorem row_red {t : Tab} {s : ByteArray} {p : List Cnd} (h : Right t) {i : Nat} (hi : i < many t) : rowAt (redT t s p).2 i = if tr p t.2 i = true then (rowAt t.2 i).set (at0 t s) Cnd.O else rowAt t.2 i := by
  apply List.ext_getElem
  · rw [row_len, red_len]
    split
    · rw [List.length_set, row_len]
    · rw [row_len]
  · intro k h1 h2
    have hk : k < t.2.length := by rw [row_len, red_len] at h1; exact h1
    have hl := h.row _ (List.getElem_mem hk)
    rw [row_at h1 (by rw [red_len]; exact hk), red_get k hk]
    by_cases ht : tr p t.2 i = true
    · simp only [ht, if_true]
      rw [List.getElem_set]
      split
      · rw [rc_getD (by omega), if_pos ⟨hi, ht⟩]
      · rw [row_at (by rw [row_len]; exact hk) hk]
    · simp only [ht, Bool.false_eq_true, if_false]
      rw [row_at (by rw [row_len]; exact hk) hk]
      split
      · rw [rc_getD (by omega), if_neg (fun e => ht e.2)]
      · rfl
/-- does a condition ask of a column? -/
def ownq (p : List Cnd) (a : Int) : Bool := p.any fun c => decide (c.1 ≤ 4 ∧ c.2.1 = a)
theorem ownq_succ {p : List Cnd} {a : Int} {k : Nat} (hk : k < p.length) : ownq (p.take (k + 1)) a = (ownq (p.take k) a || decide (p[k].1 ≤ 4 ∧ p[k].2.1 = a)) := by
  unfold ownq; rw [List.take_succ_eq_append_getElem hk, List.any_append]; simp
theorem tr_red {t : Tab} {s : ByteArray} {p : List Cnd} (h : Right t) (hc : Cnd.chk (knds t.1) p = 0) (ho : ownq p (at0 t s : Nat) = false) {i : Nat} (hi : i < many t) : tr p (redT t s p).2 i = tr p t.2 i := by
  unfold tr
  rw [Cnd.val_congr (f := Cnd.askf (rowAt (redT t s p).2 i)) (g := Cnd.askf (rowAt t.2 i)) hc]
  intro c hcm hsz
  have hl := Cnd.leaf_col (Cnd.chk_al hc c hcm) hsz
  have hne : c.2.1.toNat ≠ at0 t s := fun e => by
    have := (List.any_eq_false.1 ho) c hcm
    simp only [decide_eq_true_eq] at this
    exact this ⟨hl.1, by omega⟩
  unfold Cnd.askf
  rw [row_red h hi]
  congr 1
  split
  · rw [List.getD_eq_getElem?_getD, List.getElem?_set_ne (Ne.symm hne), ← List.getD_eq_getElem?_getD]
  · rfl
theorem red_red {t : Tab} {s : ByteArray} {p : List Cnd} (h : redE t s p = 0) : redE (redT t s p) s p = 0 := by
  obtain ⟨h1, h2, h3⟩ := redE_ok.1 h
  exact redE_ok.2 ⟨red_right h1, h2, h3⟩
theorem red_again {t : Tab} {s : ByteArray} {p : List Cnd} (h : redE t s p = 0) (ho : ownq p (at0 t s : Nat) = false) : redT (redT t s p) s p = redT t s p := by
  obtain ⟨h1, h2, h3⟩ := redE_ok.1 h
  refine Prod.ext rfl ?_
  apply List.ext_getElem
  · rw [red_len]
  · intro k hk1 hk2
    have hk : k < t.2.length := by rw [red_len] at hk2; exact hk2
    rw [red_get k (by rw [red_len]; exact hk)]
    have e : at0 (redT t s p) s = at0 t s := rfl
    rw [e, red_many, red_get k hk]
    split
    · have hl := h1.row _ (List.getElem_mem hk)
      apply List.ext_getElem
      · rw [rc_len]
      · intro i hi1 hi2
        rw [rc_at i hi1, rc_at i hi2]
        rw [rc_len] at hi2
        rw [rc_getD hi2]
        by_cases hq : i < many t ∧ tr p t.2 i = true
        · rw [if_pos hq, if_pos ⟨hq.1, by rw [tr_red h1 h3 ho hq.1]; exact hq.2⟩]
        · rw [if_neg hq, if_neg (fun e => hq ⟨e.1, by rw [← tr_red h1 h3 ho e.1]; exact e.2⟩)]
    · rfl
/-- a row of a table that is right, is right -/
theorem cchk_one {kd : Int} {x : Cel} (hk : kd = 1 ∨ kd = 2) (h : Cel.alone kd x = 0) : Cel.cchk kd [x] = 0 := by
  unfold Cel.cchk
  rw [if_neg (by omega), if_neg (by simp)]
  exact (bad_iff kd [x]).2 fun y hy => by
    simp only [List.mem_cons, List.not_mem_nil, or_false] at hy
    rw [hy]; exact h
theorem row_cells {t : Tab} (h : Right t) {i : Nat} (hi : i < many t) (k : Nat) (h1 : k < (knds t.1).length) (h2 : k < (rowAt t.2 i).length) : Cel.cchk (knds t.1)[k] [(rowAt t.2 i)[k]] = 0 := by
  have hk1 : k < t.1.length := by rw [knds_len] at h1; exact h1
  have hk2 : k < t.2.length := by rw [row_len] at h2; exact h2
  have hl := h.row _ (List.getElem_mem hk2)
  rw [row_at h2 hk2]
  have e : (knds t.1)[k] = t.1[k].2 := by simp [knds]
  rw [e]
  have hx : t.2[k].getD i Cnd.O ∈ t.2[k] := by
    rw [List.getD_eq_getElem?_getD, List.getElem?_eq_getElem (by omega)]; exact List.getElem_mem _
  exact cchk_one (h.ok _ (List.getElem_mem hk1)).2 (h.cel k hk1 hk2 _ hx)
end Hy.Tb
end
