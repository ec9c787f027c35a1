/- Files: plain laws: what is right stays right; what is read. No program in sight. -/
import Derived.Test.YtolhifnlahllnaaDoorFsr
namespace Hy.Fs
open Go
theorem good_sub {n : Int} {l m : List Ent} (h : m.Sublist l) (hl : Good n l) : Good n m :=
  ⟨fun x hx => hl.1 x (h.subset hx), hl.2.1.sublist (h.map _), List.Pairwise.sublist (h.map _) hl.2.2⟩
theorem good_up {n m : Int} (h : n ≤ m) {l : List Ent} (hl : Good n l) : Good m l :=
  ⟨fun x hx => by obtain ⟨h1, h2, h3⟩ := hl.1 x hx; exact ⟨h1, h2, by omega⟩, hl.2⟩
theorem inj2 {l : List Ent} (h : (l.map (·.2)).Nodup) {x y : Ent} (hx : x ∈ l) (hy : y ∈ l) (e : x.2 = y.2) : x = y := by
  induction l with
  | nil => simp at hx
  | cons z r ih =>
    rw [List.map_cons, List.nodup_cons] at h
    rcases List.mem_cons.1 hx with hxz | hxr
    · rcases List.mem_cons.1 hy with hyz | hyr
      · rw [hxz, hyz]
      · exact absurd (List.mem_map.2 ⟨y, hyr, by rw [← e, hxz]⟩) h.1
    · rcases List.mem_cons.1 hy with hyz | hyr
      · exact absurd (List.mem_map.2 ⟨x, hxr, by rw [e, hyz]⟩) h.1
      · exact ih h.2 hxr hyr
theorem mem_wout {l : List Ent} {s : ByteArray} {x : Ent} : x ∈ wout l s ↔ x ∈ l ∧ x.1 ≠ s := by unfold wout; simp
theorem mem_wth {l : List Ent} {x y : Ent} : y ∈ wth l x ↔ y = x ∨ (y ∈ l ∧ key y ≠ key x) := by
  unfold wth
  simp only [List.mem_append, List.mem_cons, List.mem_filter, decide_eq_true_eq]
  constructor
  · rintro (⟨h, h2⟩ | rfl | ⟨h, h2⟩)
    · exact .inr ⟨h, fun e => by rw [e] at h2; exact Dct.lt_irr _ h2⟩
    · exact .inl rfl
    · exact .inr ⟨h, fun e => by rw [e] at h2; exact Dct.lt_irr _ h2⟩
  · rintro (rfl | ⟨h, h2⟩)
    · exact .inr (.inl rfl)
    · rcases Dct.tot3 (key y) (key x) with h3 | h3 | h3
      · exact .inl ⟨h, h3⟩
      · exact absurd h3 h2
      · exact .inr (.inr ⟨h, h3⟩)
theorem wout_good {n : Int} {l : List Ent} (hl : Good n l) (s : ByteArray) : Good n (wout l s) := good_sub List.filter_sublist hl
theorem wth_good {n : Int} {l : List Ent} (hl : Good n l) {x : Ent} (h1 : Nm.nm (key x) = true) (h2 : 0 ≤ x.2) (h3 : x.2 < n) (h4 : x.2 ∉ l.map (·.2)) : Good n (wth l x) := by
  refine ⟨fun y hy => ?_, ?_, ?_⟩
  · rcases mem_wth.1 hy with rfl | ⟨hy, _⟩
    · exact ⟨h1, h2, h3⟩
    · exact hl.1 y hy
  · unfold wth nms
    rw [List.map_append, List.map_cons, List.pairwise_append, List.pairwise_cons]
    have hs : ∀ p : Ent → Bool, ((l.filter p).map fun x => x.1.data.toList).Pairwise (· < ·) := fun p => hl.2.1.sublist (List.filter_sublist.map _)
    refine ⟨hs _, ⟨fun b hb => ?_, hs _⟩, fun a ha b hb => ?_⟩
    · obtain ⟨y, hy, rfl⟩ := List.mem_map.1 hb
      simpa using (List.mem_filter.1 hy).2
    · obtain ⟨y, hy, rfl⟩ := List.mem_map.1 ha
      have hy2 : key y < key x := by simpa using (List.mem_filter.1 hy).2
      rcases List.mem_cons.1 hb with rfl | hb
      · exact hy2
      · obtain ⟨z, hz, rfl⟩ := List.mem_map.1 hb
        have hz2 : key x < key z := by simpa using (List.mem_filter.1 hz).2
        exact Dct.lt_tr hy2 hz2
  · unfold wth
    rw [List.map_append, List.map_cons, List.nodup_append, List.nodup_cons]
    have hs : ∀ p : Ent → Bool, ((l.filter p).map (·.2)).Nodup := fun p => List.Pairwise.sublist (List.filter_sublist.map _) hl.2.2
    have hx : ∀ p : Ent → Bool, x.2 ∉ (l.filter p).map (·.2) := fun p h => by
      obtain ⟨y, hy, e⟩ := List.mem_map.1 h
      exact h4 (List.mem_map.2 ⟨y, (List.mem_filter.1 hy).1, e⟩)
    refine ⟨hs _, ⟨hx _, hs _⟩, fun a ha b hb => ?_⟩
    obtain ⟨y, hy, rfl⟩ := List.mem_map.1 ha
    rcases List.mem_cons.1 hb with rfl | hb
    · intro e; exact hx _ (by rw [← e]; exact ha)
    · obtain ⟨z, hz, rfl⟩ := List.mem_map.1 hb
      intro e
      have := inj2 hl.2.2 (List.mem_filter.1 hy).1 (List.mem_filter.1 hz).1 e
      subst this
      have h5 : key y < key x := by simpa using (List.mem_filter.1 hy).2
      have h6 : key x < key y := by simpa using (List.mem_filter.1 hz).2
      exact Dct.lt_asy h5 h6
theorem nof_wth_same {n : Int} {l : List Ent} {x : Ent} (h : Good n (wth l x)) : nof (wth l x) x.1 = x.2 := nof_yes h.2.1 (mem_wth.2 (.inl rfl))
theorem nof_sub {n k : Int} {l m : List Ent} (hl : Good n l) (hm : Good k m) {s : ByteArray} (h : ∀ x : Ent, x.1 = s → (x ∈ l ↔ x ∈ m)) : nof l s = nof m s := by
  rcases nof_mem l s with h1 | ⟨x, hx, h1, h2⟩
  · rw [h1]
    rcases nof_mem m s with h3 | ⟨y, hy, h3, h4⟩
    · exact h3.symm
    · have := nof_yes hl.2.1 ((h y h3).2 hy)
      rw [h3, h1] at this
      have := (hm.1 y hy).2.1
      omega
  · have := nof_yes hm.2.1 ((h x h1).1 hx)
    rw [h1] at this
    rw [h2, this]
theorem nof_wth_other {n k : Int} {l : List Ent} {x : Ent} (hl : Good k l) (h : Good n (wth l x)) {s : ByteArray} (hne : s ≠ x.1) : nof (wth l x) s = nof l s :=
  nof_sub h hl fun y hy => by
    rw [mem_wth]
    constructor
    · rintro (rfl | h)
      · exact absurd hy.symm hne
      · exact h.1
    · exact fun h => .inr ⟨h, fun e => hne (by rw [← hy]; exact ba_eq e)⟩
theorem nof_wout_same {l : List Ent} {s : ByteArray} : nof (wout l s) s = -1 := by
  rcases nof_mem (wout l s) s with h | ⟨x, hx, h, _⟩
  · exact h
  · exact absurd h (mem_wout.1 hx).2
theorem nof_wout_other {k : Int} {l : List Ent} (hl : Good k l) {s t : ByteArray} (hne : s ≠ t) : nof (wout l t) s = nof l s :=
  nof_sub (wout_good hl t) hl fun y hy => by rw [mem_wout]; exact ⟨fun h => h.1, fun h => ⟨h, by rw [hy]; exact hne⟩⟩
theorem nof_mov (a b : List Ent) {l : List Ent} (h : ∀ x ∈ l, 0 ≤ x.2) (s : ByteArray) : nof (mov a b l) s = if nof l s < 0 then -1 else ((Fs.few a b (nof l s).toNat : Nat) : Int) := by
  induction l with
  | nil => rfl
  | cons x r ih =>
    have e1 : nof (mov a b (x :: r)) s = if x.1 = s then ((Fs.few a b x.2.toNat : Nat) : Int) else nof (mov a b r) s := rfl
    have e2 : nof (x :: r) s = if x.1 = s then x.2 else nof r s := rfl
    rw [e1, e2]
    by_cases hx : x.1 = s
    · rw [if_pos hx, if_pos hx, if_neg (by have := h x (by simp); omega)]
    · rw [if_neg hx, if_neg hx]; exact ih (fun y hy => h y (by simp [hy]))
/-- what a name has -/
def lv (f : FSy) (s : ByteArray) : Option Nod := if nof f.2.1 s < 0 then none else f.1[(nof f.2.1 s).toNat]?
theorem lv_rdf {f : FSy} (h : Ok f) (s : ByteArray) : rdf f s = match lv f s with | none => (ByteArray.empty, 5) | some x => (x.1, 0) := by
  unfold lv
  by_cases hn : nof f.2.1 s < 0
  · rw [if_pos hn, rdf_none (ok_iff.2 h) hn]
  · rw [if_neg hn]
    have hr := nof_rng (dir_iff.2 h.dir) s
    have hk : (nof f.2.1 s).toNat < f.1.length := by omega
    rw [rdf_ok (ok_iff.2 h) _ hk (by omega), List.getElem?_eq_getElem hk]
theorem nof_named {l : List Ent} {s : ByteArray} (h : ¬ nof l s < 0) : nmd l (nof l s) = true := by
  rcases nof_mem l s with h1 | ⟨x, hx, _, h2⟩
  · omega
  · rw [h2, nmd_iff]; exact List.mem_map.2 ⟨x, hx, rfl⟩
theorem lv_swp {f : FSy} (h : Good f.1.length f.2.1) (s : ByteArray) : lv (swp f) s = lv f s := by
  unfold lv
  rw [swp_eq]
  simp only
  rw [nof_mov _ _ (fun x hx => (h.1 x hx).2.1)]
  by_cases hn : nof f.2.1 s < 0
  · rw [if_pos hn, if_pos hn, if_pos (by omega)]
  · rw [if_neg hn, if_neg hn, if_neg (by omega), Int.toNat_natCast]
    have hr := nof_rng (dir_iff.2 h) s
    have hk : (nof f.2.1 s).toNat < f.1.length := by omega
    have e : (((nof f.2.1 s).toNat : Nat) : Int) = nof f.2.1 s := by omega
    rw [keep_at _ _ _ _ hk (by rw [e, nof_named hn]; rfl), List.getElem?_eq_getElem hk]
/-- the form of an op that is right -/
theorem opck_zero {o : Opn} (h : opck o = 0) : 1 ≤ o.1 ∧ o.1 ≤ 5 ∧ (o.1 ≠ 5 → Nm.nm o.2.1.data.toList = true) ∧ (o.1 = 3 → Nm.nm o.2.2.1.data.toList = true) ∧ o.2.2.2.size ≤ 65536 := by
  unfold opck at h
  by_cases h1 : o.1 < 1 ∨ 5 < o.1
  · rw [if_pos h1] at h; omega
  · rw [if_neg h1] at h
    split at h
    · omega
    · rename_i h2
      by_cases h3 : 65536 < o.2.2.2.size
      · rw [if_pos h3] at h; omega
      · refine ⟨by omega, by omega, fun h4 => ?_, fun h4 => ?_, by omega⟩
        · cases h5 : Nm.nm o.2.1.data.toList
          · exact absurd (.inr (.inl ⟨h4, h5⟩)) h2
          · rfl
        · cases h5 : Nm.nm o.2.2.1.data.toList
          · exact absurd (.inr (.inr (.inl ⟨h4, h5⟩))) h2
          · rfl
theorem setL_len (l : List Nod) (k : Nat) (t : ByteArray) : (setL l k t).length = l.length := by simp [setL]
theorem synL_len (l : List Nod) (k : Nat) : (synL l k).length = l.length := by simp [synL]
theorem setL_mem {l : List Nod} {k : Nat} {t : ByteArray} {x : Nod} (h : x ∈ setL l k t) : ∃ y ∈ l, x = y ∨ x = (t, y.2) := by
  obtain ⟨i, hi, rfl⟩ := List.mem_iff_getElem.1 h
  unfold setL at hi ⊢
  rw [List.length_modify] at hi
  rw [List.getElem_modify]
  refine ⟨l[i], List.getElem_mem hi, ?_⟩
  split
  · exact .inr rfl
  · exact .inl rfl
theorem synL_mem {l : List Nod} {k : Nat} {x : Nod} (h : x ∈ synL l k) : ∃ y ∈ l, x = y ∨ x = (y.1, y.1) := by
  obtain ⟨i, hi, rfl⟩ := List.mem_iff_getElem.1 h
  unfold synL at hi ⊢
  rw [List.length_modify] at hi
  rw [List.getElem_modify]
  refine ⟨l[i], List.getElem_mem hi, ?_⟩
  split
  · exact .inr rfl
  · exact .inl rfl
theorem big_of {a b : ByteArray} : big (a, b) = false ↔ a.size ≤ 65536 ∧ b.size ≤ 65536 := by
  show (decide (65536 < a.size) || decide (65536 < b.size)) = false ↔ _
  rw [Bool.or_eq_false_iff, decide_eq_false_iff_not, decide_eq_false_iff_not]; omega
theorem empty_size : ByteArray.empty.size = 0 := rfl
theorem nof_notin {l : List Ent} {n : Int} (hl : Good n l) {s : ByteArray} (h : ¬ nof l s < 0) : nof l s ∉ (wout l s).map (·.2) := by
  intro hm
  obtain ⟨y, hy, e⟩ := List.mem_map.1 hm
  obtain ⟨hy1, hy2⟩ := mem_wout.1 hy
  rcases nof_mem l s with h1 | ⟨x, hx, h1, h2⟩
  · omega
  · rw [h2] at e
    have := inj2 hl.2.2 hy1 hx e
    subst this; exact hy2 h1
/-- a file is written: it is right, and what is read -/
theorem wrt_ok {f : FSy} (h : Ok f) {s t : ByteArray} (hs : Nm.nm s.data.toList = true) (ht : t.size ≤ 65536) (h0 : (wrt f s t).2 = 0) :
    Ok (wrt f s t).1 ∧ (∃ u, lv (wrt f s t).1 s = some (t, u)) ∧ ∀ o, o ≠ s → lv (wrt f s t).1 o = lv f o := by
  unfold wrt at h0 ⊢
  by_cases hn : nof f.2.1 s < 0
  · rw [if_pos hn] at h0 ⊢
    by_cases h24 : f.1.length = 24
    · rw [if_pos h24] at h0; simp at h0
    · rw [if_neg h24]
      have hf := h.few
      have hnm := (nof_iff h.dir).1 hn
      have hlen : (f.1 ++ [(t, ByteArray.empty)]).length = f.1.length + 1 := by simp
      have hg : Good (f.1.length + 1 : Nat) (wth f.2.1 (s, (f.1.length : Nat))) :=
        wth_good (good_up (by omega) h.dir) hs (by simp) (by simp only; omega) (fun hm => by
          obtain ⟨x, hx, e⟩ := List.mem_map.1 hm
          have := (h.dir.1 x hx).2.2
          simp only at e; omega)
      refine ⟨⟨by simp only [hlen]; omega, fun x hx => ?_, by simp only [hlen]; exact hg, by simp only [hlen]; exact good_up (by omega) h.syn, fun i hi => ?_⟩, ⟨ByteArray.empty, ?_⟩, fun o ho => ?_⟩
      · simp only [List.mem_append, List.mem_singleton] at hx
        rcases hx with hx | rfl
        · exact h.big x hx
        · exact big_of.2 ⟨ht, by rw [empty_size]; omega⟩
      · simp only [hlen] at hi ⊢
        by_cases hlt : i < f.1.length
        · rcases h.all i hlt with h1 | h1
          · left
            obtain ⟨x, hx, e⟩ := List.mem_map.1 h1
            exact List.mem_map.2 ⟨x, mem_wth.2 (.inr ⟨hx, fun e => hnm (mem_nms.2 ⟨x, hx, e⟩)⟩), e⟩
          · exact .inr h1
        · left
          refine List.mem_map.2 ⟨_, mem_wth.2 (.inl rfl), ?_⟩
          simp only; omega
      · unfold lv
        simp only
        rw [nof_wth_same (x := (s, ((f.1.length : Nat) : Int))) hg, if_neg (by simp only; omega)]
        simp
      · unfold lv
        simp only
        rw [nof_wth_other h.dir hg (by simp only; exact ho)]
        by_cases hn2 : nof f.2.1 o < 0
        · rw [if_pos hn2, if_pos hn2]
        · rw [if_neg hn2, if_neg hn2]
          have hr := nof_rng (dir_iff.2 h.dir) o
          rw [List.getElem?_append_left (by omega)]
  · rw [if_neg hn]
    have hr := nof_rng (dir_iff.2 h.dir) s
    have hk : (nof f.2.1 s).toNat < f.1.length := by omega
    refine ⟨⟨by simp only [setL_len]; exact h.few, fun x hx => ?_, by simp only [setL_len]; exact h.dir, by simp only [setL_len]; exact h.syn, by simp only [setL_len]; exact h.all⟩, ?_, fun o ho => ?_⟩
    · obtain ⟨y, hy, e⟩ := setL_mem hx
      have hb := h.big y hy
      rcases e with rfl | rfl
      · exact hb
      · exact big_of.2 ⟨ht, (big_of (a := y.1) (b := y.2).1 hb).2⟩
    · unfold lv
      simp only
      rw [if_neg hn]
      unfold setL
      rw [List.getElem?_modify, List.getElem?_eq_getElem hk]
      exact ⟨_, by simp; rfl⟩
    · unfold lv
      simp only
      by_cases hn2 : nof f.2.1 o < 0
      · rw [if_pos hn2, if_pos hn2]
      · rw [if_neg hn2, if_neg hn2]
        unfold setL
        rw [List.getElem?_modify]
        have hne : (nof f.2.1 s).toNat ≠ (nof f.2.1 o).toNat := fun e => by
          rcases nof_mem f.2.1 s with h1 | ⟨x, hx, h1, h2⟩
          · omega
          rcases nof_mem f.2.1 o with h3 | ⟨y, hy, h3, h4⟩
          · omega
          have := inj2 h.dir.2.2 hx hy (by omega)
          subst this
          exact ho (by rw [← h3, h1])
        simp [hne]
theorem raw_ok {f : FSy} (h : Ok f) {o : Opn} (ho : opck o = 0) (h0 : (raw f o).2 = 0) : Ok (raw f o).1 := by
  obtain ⟨k1, k2, k3, k4, k5⟩ := opck_zero ho
  unfold raw at h0 ⊢
  by_cases h1 : o.1 = 1
  · rw [if_pos h1] at h0 ⊢
    exact (wrt_ok h (k3 (by omega)) k5 h0).1
  rw [if_neg h1] at h0 ⊢
  by_cases h5 : o.1 = 5
  · rw [if_pos h5]; exact swp_ok h.few h.big h.dir h.dir
  rw [if_neg h5] at h0 ⊢
  by_cases hn : nof f.2.1 o.2.1 < 0
  · rw [if_pos hn] at h0; simp at h0
  rw [if_neg hn]
  have hr := nof_rng (dir_iff.2 h.dir) o.2.1
  by_cases h2 : o.1 = 2
  · rw [if_pos h2]
    refine swp_ok (by simp only [synL_len]; exact h.few) (fun x hx => ?_) (by simp only [synL_len]; exact h.dir) (by simp only [synL_len]; exact h.syn)
    obtain ⟨y, hy, e⟩ := synL_mem hx
    have hb := h.big y hy
    rcases e with rfl | rfl
    · exact hb
    · have := (big_of (a := y.1) (b := y.2).1 hb).1
      exact big_of.2 ⟨this, this⟩
  rw [if_neg h2]
  by_cases h3 : o.1 = 3
  · rw [if_pos h3]
    exact swp_ok h.few h.big (wth_good (wout_good h.dir _) (k4 h3) (by simp only; omega) (by simp only; omega) (nof_notin h.dir hn)) h.syn
  rw [if_neg h3]
  exact swp_ok h.few h.big (wout_good h.dir _) h.syn
theorem don_ok {f : FSy} {o : Opn} (h0 : (don f o).2 = 0) : Ok f ∧ opck o = 0 ∧ don f o = raw f o ∧ Ok (don f o).1 := by
  by_cases h1 : fsck f = 0
  · by_cases h2 : opck o = 0
    · rw [don_raw h1 h2] at h0 ⊢
      exact ⟨ok_iff.1 h1, h2, rfl, raw_ok (ok_iff.1 h1) h2 h0⟩
    · rw [don_form h1 h2] at h0; exact absurd h0 h2
  · rw [don_bad h1] at h0; exact absurd h0 h1
theorem run_ok {l : List Opn} : ∀ {f : FSy}, Ok f → (run f l).2 = 0 → Ok (run f l).1 := by
  induction l with
  | nil => intro f h _; exact h
  | cons o r ih =>
    intro f h h0
    simp only [run] at h0 ⊢
    by_cases hd : (don f o).2 = 0
    · rw [if_neg (by omega)] at h0 ⊢
      exact ih (don_ok hd).2.2.2 h0
    · rw [if_pos hd] at h0; exact absurd h0 hd
theorem run_app {l m : List Opn} : ∀ {f : FSy}, (run f (l ++ m)).2 = 0 → (run f l).2 = 0 ∧ run f (l ++ m) = run (run f l).1 m := by
  induction l with
  | nil => intro f _; exact ⟨rfl, rfl⟩
  | cons o r ih =>
    intro f h0
    simp only [List.cons_append, run] at h0 ⊢
    by_cases hd : (don f o).2 = 0
    · rw [if_neg (by omega)] at h0
      rw [if_neg (by omega), if_neg (by omega)]
      exact ih h0
    · rw [if_pos hd] at h0; exact absurd h0 hd
theorem ply_parts {f : FSy} {l : List Opn} {k : Nat} (h0 : (ply f l).2 = 0) : (ply f (l.take k)).2 = 0 ∧ (ply (ply f (l.take k)).1 (l.drop k)).2 = 0 ∧ ply (ply f (l.take k)).1 (l.drop k) = ply f l := by
  by_cases h1 : fsck f = 0
  · by_cases h2 : 64 < l.length
    · rw [ply_many h1 h2] at h0; simp at h0
    · rw [ply_run h1 h2] at h0
      have e : l = l.take k ++ l.drop k := (List.take_append_drop k l).symm
      rw [e] at h0
      obtain ⟨h3, h4⟩ := run_app h0
      rw [← e] at h4 h0
      have h5 : ¬ 64 < (l.take k).length := by rw [List.length_take]; omega
      have h6 : ¬ 64 < (l.drop k).length := by rw [List.length_drop]; omega
      rw [ply_run h1 h5]
      have h7 := run_ok (ok_iff.1 h1) h3
      rw [ply_run (ok_iff.2 h7) h6, ply_run h1 h2, ← h4]
      exact ⟨h3, h0, rfl⟩
  · rw [ply_bad h1] at h0; exact absurd h0 h1
theorem crn_mem {m : Nat} {l : List Nod} : ∀ {i : Nat} {x : Nod}, x ∈ crn m i l → ∃ y ∈ l, x = (y.1, y.1) ∨ x = (y.2, y.2) := by
  induction l with
  | nil => intro i x hx; simp [crn] at hx
  | cons y r ih =>
    intro i x hx
    simp only [crn] at hx
    rcases List.mem_cons.1 hx with rfl | hx
    · refine ⟨y, by simp, ?_⟩
      split
      · exact .inl rfl
      · exact .inr rfl
    · obtain ⟨z, hz, e⟩ := ih hx
      exact ⟨z, by simp [hz], e⟩
theorem crn_big {m i : Nat} {l : List Nod} (h : ∀ x ∈ l, big x = false) : ∀ x ∈ crn m i l, big x = false := fun x hx => by
  obtain ⟨y, hy, e⟩ := crn_mem hx
  have := big_of (a := y.1) (b := y.2).1 (h y hy)
  rcases e with rfl | rfl
  · exact big_of.2 ⟨this.1, this.1⟩
  · exact big_of.2 ⟨this.2, this.2⟩
theorem crd_good {f : FSy} (h : Ok f) (m : Nat) : Good f.1.length (crd f m) := by unfold crd; split; exact h.dir; exact h.syn
theorem crs_fine {f : FSy} (h : Ok f) (m : Nat) : Ok (crs f m).1 := by
  rw [crs_ok (ok_iff.2 h)]
  exact swp_ok (by simp only [crn_len]; exact h.few) (crn_big h.big) (by simp only [crn_len]; exact crd_good h m) (by simp only [crn_len]; exact crd_good h m)
theorem crs_lv {f : FSy} (h : Ok f) (m : Nat) (s : ByteArray) : lv (crs f m).1 s = lv (crn m 0 f.1, crd f m, crd f m) s := by
  rw [crs_ok (ok_iff.2 h)]
  exact lv_swp (by simp only [crn_len]; exact crd_good h m) s
/-- nothing more is lost -/
theorem crn_same {m : Nat} {l : List Nod} (h : ∀ x ∈ l, x.1 = x.2) : ∀ i, crn m i l = l := by
  induction l with
  | nil => intro i; rfl
  | cons x r ih =>
    intro i
    have hx := h x (by simp)
    simp only [crn, ih (fun y hy => h y (by simp [hy]))]
    congr 1
    obtain ⟨a, b⟩ := x
    simp only at hx
    subst hx
    split <;> rfl
theorem crs_twice {f : FSy} (h : Ok f) (m k : Nat) : crs (crs f m).1 k = ((crs f m).1, 0) := by
  have hb := crs_fine h m
  rw [crs_ok (ok_iff.2 hb)]
  have e : (crs f m).1 = swp (crn m 0 f.1, crd f m, crd f m) := by rw [crs_ok (ok_iff.2 h)]
  have h1 : ∀ x ∈ (crs f m).1.1, x.1 = x.2 := fun x hx => by
    rw [e, swp_eq] at hx
    obtain ⟨y, _, h2⟩ := crn_mem (keep_sub _ _ _ _ x hx)
    rcases h2 with rfl | rfl <;> rfl
  have h2 : (crs f m).1.2.1 = (crs f m).1.2.2 := by rw [e, swp_eq]
  have h3 : crd (crs f m).1 k = (crs f m).1.2.1 := by unfold crd; split; rfl; exact h2.symm
  rw [crn_same h1, h3]
  have h4 : ((crs f m).1.1, (crs f m).1.2.1, (crs f m).1.2.1) = (crs f m).1 := by
    conv => rhs; rw [show (crs f m).1 = ((crs f m).1.1, (crs f m).1.2.1, (crs f m).1.2.2) from rfl, ← h2]
  rw [h4, swp_id hb]
end Hy.Fs
