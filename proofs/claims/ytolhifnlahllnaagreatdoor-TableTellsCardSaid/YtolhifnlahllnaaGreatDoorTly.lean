/- Conditions that are right, of trees. No program in sight. Tables that are right, plain; what is kept, put together, chosen of them stays right. No program in sight. Tables, plain: parts put together; columns chosen; what is undone. No program in sight. -/
import Derived.Test.YtolhifnlahllnaaGreatDoorQpb
import Derived.Test.YtolhifnlahllnaaGreatDoorTbm
section
namespace Hy.Cnd
open Go
theorem pk_code {ks : List Int} (t : Tm) : ∀ (o : Nat) (r : List Cnd), t.ok → (∀ c ∈ t.code, al ks c = 0) → pk ks o (t.code ++ r) = pk ks (o + 1) r := by
  induction t with
  | lf c =>
    intro o r hok hal
    have h := hal c (by simp [Tm.code])
    have hs : sz c.1 = 0 := hok
    simp only [Tm.code, List.cons_append, List.nil_append, pk]
    rw [if_neg (by omega), if_neg (by omega), hs]; rfl
  | nt c u ih =>
    intro o r hok hal
    have h := hal c (by simp [Tm.code])
    simp only [Tm.code, List.append_assoc]
    rw [ih o _ hok.2 (fun d hd => hal d (by simp [Tm.code, hd]))]
    have hs := hok.1
    simp only [List.cons_append, List.nil_append, pk]
    rw [if_neg (by omega), if_neg (by omega), hs]; rfl
  | jn c a b iha ihb =>
    intro o r hok hal
    have h := hal c (by simp [Tm.code])
    simp only [Tm.code, List.append_assoc]
    rw [iha o _ hok.2.1 (fun d hd => hal d (by simp [Tm.code, hd])), ihb (o + 1) _ hok.2.2 (fun d hd => hal d (by simp [Tm.code, hd]))]
    have hs := hok.1
    simp only [List.cons_append, List.nil_append, pk]
    rw [if_neg (by omega), if_neg (by omega), hs]; rfl
theorem chk_code {ks : List Int} {t : Tm} (hok : t.ok) (hal : ∀ c ∈ t.code, al ks c = 0) (h : t.code.length ≤ 16) : chk ks t.code = 0 := by
  unfold chk
  rw [if_neg (by omega)]
  have := pk_code (ks := ks) t 0 [] hok hal
  rw [List.append_nil] at this
  rw [this]; rfl
/-- a node that joins -/
def nd (op : Int) : Cnd := (op, 0, O)
theorem al_nd {ks : List Int} {op : Int} (h : op = 5 ∨ op = 6 ∨ op = 7) : al ks (nd op) = 0 := by
  rcases al_ways ks op 0 O with ⟨h1, _⟩ | ⟨h1, h2, _⟩ | ⟨h1, h2, _⟩ | ⟨_, h1, _⟩ | ⟨_, _, h1, _⟩ | ⟨_, _, _, h1⟩
  · omega
  · omega
  · omega
  · exact absurd rfl h1
  · exact absurd rfl h1
  · exact h1
theorem ev2 (row : List Cel) (t : Tm) : t.ev (askf row) jn ≤ 2 := ev_le (askf_le row) (fun _ _ _ hx hy => jn_le hx hy) t
end Hy.Cnd
end
section
namespace Hy.Tb
open Go
/-- a table that is right -/
structure Right (t : Tab) : Prop where
  six : t.1.length ≤ 6
  len : t.1.length = t.2.length
  nms : (t.1.map (·.1)).Nodup
  ok : ∀ c ∈ t.1, Nm.nm c.1.data.toList = true ∧ (c.2 = 1 ∨ c.2 = 2)
  cel : ∀ k (h : k < t.1.length) (h' : k < t.2.length), ∀ x ∈ t.2[k], Cel.alone t.1[k].2 x = 0
  row : ∀ l ∈ t.2, l.length = many t
  lim : many t ≤ 128
theorem bad_iff (kd : Int) (l : List Cel) : Cel.bad kd l = 0 ↔ ∀ x ∈ l, Cel.alone kd x = 0 := by
  induction l with
  | nil => simp [Cel.bad]
  | cons c r ih =>
    simp only [Cel.bad, List.mem_cons, forall_eq_or_imp]
    by_cases h : Cel.alone kd c = 0
    · rw [if_pos h, ih]; simp [h]
    · rw [if_neg h]; simp [h]
theorem ccol_iff (kd : Int) (l : List Cel) : ccol kd l = 0 ↔ (kd = 1 ∨ kd = 2) ∧ l.length ≤ 128 ∧ ∀ x ∈ l, Cel.alone kd x = 0 := by
  unfold ccol
  by_cases h : kd ≠ 1 ∧ kd ≠ 2
  · rw [if_pos h]; constructor
    · intro e; omega
    · intro e; omega
  · rw [if_neg h]
    by_cases h2 : 128 < l.length
    · rw [if_pos h2]; constructor
      · intro e; omega
      · intro e; omega
    · rw [if_neg h2, bad_iff]; constructor
      · intro e; exact ⟨by omega, by omega, e⟩
      · intro e; exact e.2.2
theorem ixc_neg (l : List Ent) (s : ByteArray) (i : Nat) : ixc l s i < 0 ↔ s ∉ l.map (·.1) := by
  induction l generalizing i with
  | nil => simp [ixc]
  | cons x r ih =>
    simp only [ixc, List.map_cons, List.mem_cons]
    by_cases h : x.1 = s
    · rw [if_pos h]; subst h; simp
    · rw [if_neg h, ih]; simp [Ne.symm h]
theorem ixc_get (l : List Ent) (s : ByteArray) (i k : Nat) (hk : k < l.length) (h : l[k].1 = s) (hj : ∀ j (hj : j < l.length), j < k → l[j].1 ≠ s) : ixc l s i = ((i + k : Nat) : Int) := by
  induction l generalizing i k with
  | nil => simp at hk
  | cons x r ih =>
    cases k with
    | zero => simp only [ixc]; rw [if_pos (show x.1 = s from h)]; simp
    | succ k =>
      simp only [ixc]
      rw [if_neg (show x.1 ≠ s from hj 0 (by simp) (by omega)), ih (i + 1) k (by simpa using hk) (by simpa using h) (fun j h1 h2 => hj (j + 1) (by simpa using h1) (by omega))]
      congr 1; omega
theorem nodup_get {α : Type} {l : List α} (h : l.Nodup) {i j : Nat} (hi : i < l.length) (hj : j < l.length) (e : l[i] = l[j]) : i = j := by
  have hp := List.pairwise_iff_getElem.1 h
  rcases Nat.lt_trichotomy i j with h1 | h1 | h1
  · exact absurd e (hp i j hi hj h1)
  · exact h1
  · exact absurd e.symm (hp j i hj hi h1)
/-- the place of a name among different ones -/
theorem ixc_nd {l : List Ent} (hn : (l.map (·.1)).Nodup) (k : Nat) (hk : k < l.length) : ixc l l[k].1 0 = (k : Int) := by
  have := ixc_get l l[k].1 0 k hk rfl (fun j hj hjk e => by
    have := nodup_get hn (i := j) (j := k) (by simpa using hj) (by simpa using hk) (by simpa using e)
    omega)
  simpa using this
theorem ixc_mem {l : List Ent} (hn : (l.map (·.1)).Nodup) {s : ByteArray} (h : s ∈ l.map (·.1)) : ∃ k, ∃ hk : k < l.length, ixc l s 0 = (k : Int) ∧ l[k].1 = s := by
  obtain ⟨k, hk, e⟩ := List.mem_iff_getElem.1 h
  rw [List.length_map] at hk
  rw [List.getElem_map] at e
  exact ⟨k, hk, by rw [← e]; exact ixc_nd hn k hk, e⟩
theorem colck_iff (c : Ent) (pre : List Ent) : colck c pre = 0 ↔ Nm.nm c.1.data.toList = true ∧ c.1 ∉ pre.map (·.1) ∧ (c.2 = 1 ∨ c.2 = 2) := by
  by_cases h1 : Nm.nm c.1.data.toList = true
  · by_cases h2 : 0 ≤ ixc pre c.1 0
    · rw [colck_twice h1 h2]
      constructor
      · intro h; omega
      · intro h; have := (ixc_neg pre c.1 0).2 h.2.1; omega
    · rw [colck_kind h1 h2]
      have h3 := (ixc_neg pre c.1 0).1 (by omega)
      by_cases h4 : c.2 = 1 ∨ c.2 = 2
      · rw [if_pos h4]; exact ⟨fun _ => ⟨h1, h3, h4⟩, fun _ => rfl⟩
      · rw [if_neg h4]; exact ⟨fun h => by omega, fun h => absurd h.2.2 h4⟩
  · rw [colck_name (by simpa using h1)]
    exact ⟨fun h => by omega, fun h => absurd h.1 h1⟩
theorem tbr_iff (n0 : Nat) (c : List Ent) : ∀ (d : List (List Cel)) (pre : List Ent), c.length = d.length → (tbr n0 pre c d = 0 ↔ ∀ k (h : k < c.length) (h' : k < d.length), colck c[k] (pre ++ c.take k) = 0 ∧ ccol c[k].2 d[k] = 0 ∧ d[k].length = n0) := by
  induction c with
  | nil => intro d pre _; exact ⟨fun _ k h => absurd h (by simp), fun _ => rfl⟩
  | cons x c ih =>
    intro d pre hl
    cases d with
    | nil => simp at hl
    | cons y d =>
      have hl' : c.length = d.length := by simpa using hl
      simp only [tbr]
      constructor
      · intro h k hk hk'
        by_cases h1 : colck x pre ≠ 0
        · rw [if_pos h1] at h; exact absurd h h1
        · rw [if_neg h1] at h
          by_cases h2 : ccol x.2 y ≠ 0
          · rw [if_pos h2] at h; exact absurd h h2
          · rw [if_neg h2] at h
            by_cases h3 : y.length ≠ n0
            · rw [if_pos h3] at h; omega
            · rw [if_neg h3] at h
              cases k with
              | zero => exact ⟨by simpa using h1, by simpa using h2, by simpa using h3⟩
              | succ k =>
                have := (ih d (pre ++ [x]) hl').1 h k (by simpa using hk) (by simpa using hk')
                simpa [List.append_assoc] using this
      · intro h
        have h0 := h 0 (by simp) (by simp)
        simp only [List.getElem_cons_zero, List.take_zero, List.append_nil] at h0
        rw [if_neg (by simp [h0.1]), if_neg (by simp [h0.2.1]), if_neg (by simp [h0.2.2])]
        refine (ih d (pre ++ [x]) hl').2 (fun k hk hk' => ?_)
        have := h (k + 1) (by simpa using hk) (by simpa using hk')
        simpa [List.append_assoc] using this
theorem many_mem {t : Tab} (h : t.2 ≠ []) : ∃ l ∈ t.2, many t = l.length := by
  obtain ⟨c, d⟩ := t
  cases d with
  | nil => exact absurd rfl h
  | cons y d => exact ⟨y, by simp, rfl⟩
theorem many_nil {t : Tab} (h : t.2 = []) : many t = 0 := by unfold many; rw [h]; rfl
theorem right_iff (t : Tab) : tbck t = 0 ↔ Right t := by
  by_cases h6 : 6 < t.1.length
  · rw [tbck_many h6]; exact ⟨fun h => by omega, fun h => by have := h.six; omega⟩
  by_cases hl : t.1.length = t.2.length
  · rw [tbck_go h6 hl, tbr_iff _ _ _ _ hl]
    simp only [List.nil_append]
    constructor
    · intro h
      refine ⟨by omega, hl, ?_, ?_, ?_, ?_, ?_⟩
      · refine List.pairwise_iff_getElem.2 (fun i j hi hj hij => ?_)
        rw [List.length_map] at hi hj
        rw [List.getElem_map, List.getElem_map]
        intro e
        have := ((colck_iff _ _).1 (h j hj (by omega)).1).2.1
        exact this (List.mem_map.2 ⟨t.1[i], List.mem_iff_getElem.2 ⟨i, by rw [List.length_take]; omega, by rw [List.getElem_take]⟩, e⟩)
      · intro c hc
        obtain ⟨k, hk, rfl⟩ := List.mem_iff_getElem.1 hc
        have := (colck_iff _ _).1 (h k hk (by omega)).1
        exact ⟨this.1, this.2.2⟩
      · intro k hk hk'
        exact ((ccol_iff _ _).1 (h k hk hk').2.1).2.2
      · intro l hm
        obtain ⟨k, hk, rfl⟩ := List.mem_iff_getElem.1 hm
        exact (h k (by omega) hk).2.2
      · by_cases hn : t.2 = []
        · rw [many_nil hn]; omega
        · have hp : 0 < t.2.length := List.length_pos_iff.2 hn
          have := h 0 (by omega) hp
          rw [← this.2.2]
          exact ((ccol_iff _ _).1 this.2.1).2.1
    · intro h k hk hk'
      refine ⟨(colck_iff _ _).2 ⟨(h.ok _ (List.getElem_mem hk)).1, ?_, (h.ok _ (List.getElem_mem hk)).2⟩, (ccol_iff _ _).2 ⟨(h.ok _ (List.getElem_mem hk)).2, by rw [h.row _ (List.getElem_mem hk')]; exact h.lim, h.cel k hk hk'⟩, h.row _ (List.getElem_mem hk')⟩
      intro hm
      obtain ⟨c, hc, e⟩ := List.mem_map.1 hm
      obtain ⟨i, hi, rfl⟩ := List.mem_iff_getElem.1 hc
      rw [List.length_take] at hi
      rw [List.getElem_take] at e
      have := nodup_get h.nms (i := i) (j := k) (by simp; omega) (by simpa using hk) (by simpa using e)
      omega
  · rw [tbck_form h6 hl]; exact ⟨fun h => by omega, fun h => absurd h.len hl⟩
theorem Right.ck {t : Tab} (h : Right t) : tbck t = 0 := (right_iff t).2 h
/-- each column by a way that makes columns of one length -/
theorem Right.map {t : Tab} (h : Right t) (f : List Cel → List Cel) (m : Nat) (hm : ∀ l ∈ t.2, ∀ x ∈ f l, x ∈ l) (hl : ∀ l ∈ t.2, (f l).length = m) (h128 : m ≤ 128) : Right (t.1, t.2.map f) := by
  have hmn : t.2 ≠ [] → many (t.1, t.2.map f) = m := fun hn => by
    obtain ⟨c, d⟩ := t
    cases d with
    | nil => exact absurd rfl hn
    | cons y d => exact hl y (by simp)
  refine ⟨h.six, by simpa using h.len, h.nms, h.ok, ?_, ?_, ?_⟩
  · intro k hk hk' x hx
    simp only [List.getElem_map] at hx
    have hk2 : k < t.2.length := by simpa using hk'
    exact h.cel k hk hk2 x (hm _ (List.getElem_mem hk2) x hx)
  · intro l hx
    obtain ⟨y, hy, rfl⟩ := List.mem_map.1 hx
    rw [hmn (List.ne_nil_of_mem hy)]; exact hl y hy
  · by_cases hn : t.2 = []
    · rw [many_nil (by simp [hn])]; omega
    · rw [hmn hn]; exact h128
theorem many_map {t : Tab} (f : List Cel → List Cel) (hn : t.2 ≠ []) (m : Nat) (hl : ∀ l ∈ t.2, (f l).length = m) : many (t.1, t.2.map f) = m := by
  obtain ⟨c, d⟩ := t
  cases d with
  | nil => exact absurd rfl hn
  | cons y d => exact hl y (by simp)
/-- Keep -/
theorem kc_len (f : Nat → Bool) (n : Nat) (l : List Cel) : (kc f n l).length = ((List.range n).filter f).length := List.length_map _
theorem kc_mem {f : Nat → Bool} {n : Nat} {l : List Cel} (h : n ≤ l.length) : ∀ x ∈ kc f n l, x ∈ l := fun x hx => by
  unfold kc at hx
  obtain ⟨i, hi, rfl⟩ := List.mem_map.1 hx
  have := List.mem_range.1 (List.mem_filter.1 hi).1
  rw [List.getD_eq_getElem?_getD, List.getElem?_eq_getElem (by omega)]
  exact List.getElem_mem _
theorem range_get (L : List Nat) : (List.range L.length).map (fun j => L.getD j 0) = L := by
  apply List.ext_getElem (by simp)
  intro i h1 h2
  simp [h2]
theorem filt_range (L : List Nat) (g h : Nat → Bool) (e : ∀ j (hj : j < L.length), g j = h L[j]) : ((List.range L.length).filter g).map (fun j => L.getD j 0) = L.filter h := by
  conv => rhs; rw [← range_get L]
  rw [List.filter_map]
  congr 1
  apply List.filter_congr
  intro j hj
  have hj' := List.mem_range.1 hj
  simp [e j hj', hj']
theorem kc_at (f : Nat → Bool) (n : Nat) (l : List Cel) (j : Nat) (hj : j < ((List.range n).filter f).length) : (kc f n l).getD j Cnd.O = l.getD (((List.range n).filter f).getD j 0) Cnd.O := by
  unfold kc
  rw [List.getD_eq_getElem?_getD, List.getElem?_map, List.getElem?_eq_getElem hj]
  simp [hj]
theorem kc_kc (f g h : Nat → Bool) (n : Nat) (l : List Cel) (e : ∀ j (hj : j < ((List.range n).filter f).length), g j = h (((List.range n).filter f)[j])) : kc g ((List.range n).filter f).length (kc f n l) = kc (fun i => f i && h i) n l := by
  have h1 : kc g ((List.range n).filter f).length (kc f n l) = (((List.range ((List.range n).filter f).length).filter g).map (fun j => ((List.range n).filter f).getD j 0)).map (fun i => l.getD i Cnd.O) := by
    rw [List.map_map]
    unfold kc
    apply List.map_congr_left
    intro j hj
    have := kc_at f n l j (List.mem_range.1 (List.mem_filter.1 hj).1)
    unfold kc at this
    exact this
  rw [h1, filt_range _ g h e, List.filter_filter]
  unfold kc
  congr 1
  apply List.filter_congr
  intro i _
  exact Bool.and_comm _ _
theorem row_kc (f : Nat → Bool) (n : Nat) (d : List (List Cel)) (j : Nat) (hj : j < ((List.range n).filter f).length) : rowAt (d.map (kc f n)) j = rowAt d (((List.range n).filter f)[j]) := by
  unfold rowAt
  rw [List.map_map]
  apply List.map_congr_left
  intro l _
  have := kc_at f n l j hj
  simpa [hj] using this
theorem tr_kc (q : List Cnd) (f : Nat → Bool) (n : Nat) (d : List (List Cel)) (j : Nat) (hj : j < ((List.range n).filter f).length) : tr q (d.map (kc f n)) j = tr q d (((List.range n).filter f)[j]) := by
  unfold tr; rw [row_kc f n d j hj]
theorem filt_le (f : Nat → Bool) (n : Nat) : ((List.range n).filter f).length ≤ n := by
  have := List.length_filter_le f (List.range n); simpa using this
theorem Right.keep {t : Tab} (h : Right t) (f : Nat → Bool) : Right (t.1, t.2.map (kc f (many t))) :=
  h.map _ ((List.range (many t)).filter f).length (fun l hl => kc_mem (by rw [h.row l hl]; exact Nat.le_refl _)) (fun l _ => kc_len _ _ _) (Nat.le_trans (filt_le _ _) h.lim)
theorem keepE_ok {t : Tab} {p : List Cnd} : keepE t p = 0 ↔ Right t ∧ Cnd.chk (knds t.1) p = 0 := by
  unfold keepE
  rw [← right_iff]
  by_cases h : tbck t = 0
  · rw [if_neg (by simp [h])]; simp [h]
  · rw [if_pos h]; simp [h]
theorem keep_right {t : Tab} {p : List Cnd} (h : Right t) : Right (keepT t p) := h.keep _
theorem keep_keep {t : Tab} (_ : Right t) (p q : List Cnd) : keepT (keepT t p) q = (t.1, t.2.map (kc (fun i => tr p t.2 i && tr q t.2 i) (many t))) := by
  unfold keepT
  by_cases hn : t.2 = []
  · simp [hn]
  · rw [many_map _ hn _ (fun l _ => kc_len _ _ _)]
    simp only [List.map_map]
    congr 1
    apply List.map_congr_left
    intro l _
    exact kc_kc _ _ (tr q t.2) _ l (fun j hj => tr_kc q _ _ _ j hj)
theorem keep_idem {t : Tab} (h : Right t) (p : List Cnd) : keepT (keepT t p) p = keepT t p := by
  rw [keep_keep h]; unfold keepT; simp
theorem keep_comm {t : Tab} (h : Right t) (p q : List Cnd) : keepT (keepT t p) q = keepT (keepT t q) p := by
  rw [keep_keep h, keep_keep h]; simp [Bool.and_comm]
theorem jn5_two : ∀ x : Nat, x ≤ 2 → ∀ y : Nat, y ≤ 2 → decide (Cnd.jn 5 x y = 2) = (decide (x = 2) && decide (y = 2)) := by decide +kernel
/-- both of two -/
theorem both {ks : List Int} {p q : List Cnd} (hp : Cnd.chk ks p = 0) (hq : Cnd.chk ks q = 0) (h : p.length + q.length < 16) :
    Cnd.chk ks (p ++ q ++ [Cnd.nd 5]) = 0 ∧ ∀ d i, tr (p ++ q ++ [Cnd.nd 5]) d i = (tr p d i && tr q d i) := by
  have ap := Cnd.chk_al hp
  have aq := Cnd.chk_al hq
  obtain ⟨s, hs, rfl, _⟩ := Cnd.right_tree hp
  obtain ⟨u, hu, rfl, _⟩ := Cnd.right_tree hq
  have hc : s.code ++ u.code ++ [Cnd.nd 5] = (Cnd.Tm.jn (Cnd.nd 5) s u).code := by simp [Cnd.Tm.code]
  have ho : (Cnd.Tm.jn (Cnd.nd 5) s u).ok := ⟨rfl, hs, hu⟩
  rw [hc]
  refine ⟨Cnd.chk_code ho (fun c hc' => ?_) ?_, fun d i => ?_⟩
  · rw [← hc] at hc'
    simp only [List.mem_append, List.mem_cons, List.not_mem_nil, or_false] at hc'
    rcases hc' with (h1 | h1) | h1
    · exact ap c h1
    · exact aq c h1
    · rw [h1]; exact Cnd.al_nd (.inl rfl)
  · rw [← hc]; simp only [List.length_append, List.length_cons, List.length_nil]; omega
  · unfold tr
    rw [Cnd.val_code _ _ _ ho, Cnd.val_code _ _ _ hs, Cnd.val_code _ _ _ hu]
    exact jn5_two _ (Cnd.ev2 _ s) _ (Cnd.ev2 _ u)
theorem keep_both {t : Tab} (h : Right t) {p q : List Cnd} (hp : Cnd.chk (knds t.1) p = 0) (hq : Cnd.chk (knds t.1) q = 0) (hl : p.length + q.length < 16) :
    keepE t (p ++ q ++ [Cnd.nd 5]) = 0 ∧ keepT t (p ++ q ++ [Cnd.nd 5]) = keepT (keepT t p) q := by
  obtain ⟨h1, h2⟩ := both hp hq hl
  refine ⟨keepE_ok.2 ⟨h, h1⟩, ?_⟩
  rw [keep_keep h]
  unfold keepT
  congr 2
  funext l
  congr 1
  funext i
  exact h2 _ _
end Hy.Tb
end
section
namespace Hy.Tb
open Go
theorem Right.slice {t : Tab} (h : Right t) (a b : Nat) : Right (t.1, t.2.map fun l => (l.drop a).take b) :=
  h.map _ (min b (many t - a)) (fun l _ x hx => List.mem_of_mem_drop (List.mem_of_mem_take hx)) (fun l hl => by rw [List.length_take, List.length_drop, h.row l hl]) (by have := h.lim; omega)
theorem sliceE_ok {t : Tab} {a b : Int} : sliceE t a b = 0 ↔ Right t ∧ 0 ≤ a ∧ 0 ≤ b := by
  unfold sliceE
  rw [← right_iff]
  by_cases h : tbck t = 0
  · rw [if_neg (by simp [h])]
    by_cases h2 : a < 0 ∨ b < 0
    · rw [if_pos h2]; simp [h]; omega
    · rw [if_neg h2]; simp [h]; omega
  · rw [if_pos h]; simp [h]
theorem slice_many {t : Tab} (h : Right t) (a b : Int) (hn : t.2 ≠ []) : many (sliceT t a b) = min b.toNat (many t - a.toNat) :=
  many_map _ hn _ (fun l hl => by rw [List.length_take, List.length_drop, h.row l hl])
theorem slice_right {t : Tab} (h : Right t) (a b : Int) : Right (sliceT t a b) := h.slice _ _
theorem appE_ok {t s : Tab} : appE t s = 0 ↔ Right t ∧ Right s ∧ t.1 = s.1 ∧ many t + many s ≤ 128 := by
  unfold appE
  rw [← right_iff, ← right_iff]
  by_cases h : tbck t = 0
  · rw [if_neg (by simp [h])]
    by_cases h2 : tbck s = 0
    · rw [if_neg (by simp [h2])]
      by_cases h3 : t.1 = s.1
      · rw [if_neg (by simp [h3])]
        by_cases h4 : 128 < many t + many s
        · rw [if_pos h4]; simp [h, h2, h3]; omega
        · rw [if_neg h4]; simp [h, h2, h3]; omega
      · rw [if_pos h3]; simp [h3]
    · rw [if_pos h2]; simp [h2]
  · rw [if_pos h]; simp [h]
theorem zip_maps (d : List (List Cel)) (f g : List Cel → List Cel) : List.zipWith (· ++ ·) (d.map f) (d.map g) = d.map fun l => f l ++ g l := by
  induction d with
  | nil => rfl
  | cons x r ih => simp only [List.map_cons, List.zipWith_cons_cons, ih]
/-- the first rows, and all behind them -/
theorem parts_app {t : Tab} (h : Right t) {k : Int} (_ : 0 ≤ k) : appE (sliceT t 0 k) (sliceT t k 128) = 0 ∧ appT (sliceT t 0 k) (sliceT t k 128) = t := by
  have h128 := h.lim
  constructor
  · refine appE_ok.2 ⟨slice_right h _ _, slice_right h _ _, rfl, ?_⟩
    by_cases hn : t.2 = []
    · rw [many_nil (t := sliceT t 0 k) (by simp [sliceT, hn]), many_nil (t := sliceT t k 128) (by simp [sliceT, hn])]; omega
    · rw [slice_many h _ _ hn, slice_many h _ _ hn]; omega
  · unfold appT sliceT
    simp only [zip_maps]
    have : t.2.map (fun l => (l.drop (0 : Int).toNat).take k.toNat ++ (l.drop k.toNat).take (128 : Int).toNat) = t.2 := by
      conv => rhs; rw [← List.map_id t.2]
      apply List.map_congr_left
      intro l hl
      have hr := h.row l hl
      rw [List.take_of_length_le (l := l.drop k.toNat) (by rw [List.length_drop]; omega)]
      exact List.take_append_drop _ _
    rw [this]
theorem kc_congr {f g : Nat → Bool} {n : Nat} {l m : List Cel} (h : ∀ i, i < n → f i = g i) (hl : ∀ i, i < n → l.getD i Cnd.O = m.getD i Cnd.O) : kc f n l = kc g n m := by
  unfold kc
  rw [List.filter_congr (fun i hi => h i (List.mem_range.1 hi))]
  apply List.map_congr_left
  intro i hi
  exact hl i (List.mem_range.1 (List.mem_filter.1 hi).1)
theorem kc_split (f : Nat → Bool) (a b : Nat) (l : List Cel) : kc f (a + b) l = kc f a l ++ kc (fun i => f (a + i)) b (l.drop a) := by
  unfold kc
  rw [List.range_add, List.filter_append, List.map_append, List.filter_map, List.map_map]
  congr 1
  apply List.map_congr_left
  intro i _
  simp [List.getD_eq_getElem?_getD, List.getElem?_drop]
theorem row_part (d : List (List Cel)) (a b i : Nat) (hi : i < b) : rowAt (d.map fun l => (l.drop a).take b) i = rowAt d (a + i) := by
  unfold rowAt
  rw [List.map_map]
  apply List.map_congr_left
  intro l _
  simp [List.getD_eq_getElem?_getD, List.getElem?_drop, hi]
theorem tr_part (p : List Cnd) (d : List (List Cel)) (a b i : Nat) (hi : i < b) : tr p (d.map fun l => (l.drop a).take b) i = tr p d (a + i) := by
  unfold tr; rw [row_part d a b i hi]
/-- kept of both parts together is kept of all -/
theorem parts_keep {t : Tab} (h : Right t) {k : Int} (hk : 0 ≤ k) (p : List Cnd) :
    appE (keepT (sliceT t 0 k) p) (keepT (sliceT t k 128) p) = 0 ∧ appT (keepT (sliceT t 0 k) p) (keepT (sliceT t k 128) p) = keepT t p := by
  have h128 := h.lim
  have ha := slice_right h 0 k
  have hb := slice_right h k 128
  by_cases hn : t.2 = []
  · constructor
    · refine appE_ok.2 ⟨keep_right ha, keep_right hb, rfl, ?_⟩
      rw [many_nil (t := keepT (sliceT t 0 k) p) (by simp [keepT, sliceT, hn]), many_nil (t := keepT (sliceT t k 128) p) (by simp [keepT, sliceT, hn])]; omega
    · simp [appT, keepT, sliceT, hn]
  · have m1 := slice_many h 0 k hn
    have m2 := slice_many h k 128 hn
    have hna : (sliceT t 0 k).2 ≠ [] := by simpa [sliceT] using hn
    have hnb : (sliceT t k 128).2 ≠ [] := by simpa [sliceT] using hn
    constructor
    · refine appE_ok.2 ⟨keep_right ha, keep_right hb, rfl, ?_⟩
      unfold keepT
      rw [many_map _ hna _ (fun l _ => kc_len _ _ _), many_map _ hnb _ (fun l _ => kc_len _ _ _)]
      have f1 := filt_le (tr p (sliceT t 0 k).2) (many (sliceT t 0 k))
      have f2 := filt_le (tr p (sliceT t k 128).2) (many (sliceT t k 128))
      omega
    · unfold appT keepT
      rw [m1, m2]
      unfold sliceT
      simp only [List.map_map, zip_maps]
      congr 1
      apply List.map_congr_left
      intro l hl
      have hr := h.row l hl
      obtain ⟨k, rfl⟩ : ∃ j : Nat, k = j := ⟨k.toNat, by omega⟩
      simp only [Function.comp_def, Int.toNat_natCast, Int.toNat_zero, Nat.sub_zero, List.drop_zero, show (128 : Int).toNat = 128 from rfl]
      have e1 : kc (tr p (t.2.map fun l => l.take k)) (min k (many t)) (l.take k) = kc (tr p t.2) (min k (many t)) l := by
        refine kc_congr (fun i hi => ?_) (fun i hi => ?_)
        · have := tr_part p t.2 0 k i (by omega)
          simpa using this
        · simp [List.getD_eq_getElem?_getD, show i < k by omega]
      have e2 : kc (tr p (t.2.map fun l => (l.drop k).take 128)) (min 128 (many t - k)) ((l.drop k).take 128) = kc (fun i => tr p t.2 (k + i)) (many t - k) (l.drop k) := by
        rw [Nat.min_eq_right (by omega : many t - k ≤ 128)]
        refine kc_congr (fun i hi => ?_) (fun i hi => ?_)
        · exact tr_part p t.2 k 128 i (by omega)
        · simp [List.getD_eq_getElem?_getD, show i < 128 by omega]
      rw [e1, e2]
      rcases Nat.le_total k (many t) with hle | hle
      · rw [Nat.min_eq_left hle]
        conv => rhs; rw [show many t = k + (many t - k) by omega]
        exact (kc_split _ _ _ _).symm
      · rw [Nat.min_eq_right hle, show many t - k = 0 by omega]
        simp [kc_zero]
/-- columns by their names -/
theorem prj_iff (c : List Ent) (ns : List ByteArray) : ∀ pre, prj c pre ns = 0 ↔ (∀ n ∈ ns, n ∈ c.map (·.1)) ∧ ns.Nodup ∧ ∀ n ∈ ns, n ∉ pre := by
  induction ns with
  | nil => intro pre; simp [prj]
  | cons n r ih =>
    intro pre
    simp only [prj]
    by_cases h1 : ixc c n 0 < 0
    · rw [if_pos h1]
      refine ⟨fun h => by omega, fun h => ?_⟩
      exact absurd (h.1 n (by simp)) ((ixc_neg c n 0).1 h1)
    · rw [if_neg h1]
      have hm : n ∈ c.map (·.1) := Classical.byContradiction fun hm => h1 ((ixc_neg c n 0).2 hm)
      by_cases h2 : n ∈ pre
      · rw [if_pos ⟨n, h2, rfl⟩]
        exact ⟨fun h => by omega, fun h => absurd h2 (h.2.2 n (by simp))⟩
      · rw [if_neg (fun ⟨m, h3, h4⟩ => h2 (h4 ▸ h3)), ih (pre ++ [n])]
        constructor
        · intro ⟨a, b, e⟩
          refine ⟨fun x hx => ?_, List.nodup_cons.2 ⟨fun hx => e n hx (by simp), b⟩, fun x hx => ?_⟩
          · rcases List.mem_cons.1 hx with rfl | hx
            · exact hm
            · exact a x hx
          · rcases List.mem_cons.1 hx with rfl | hx
            · exact h2
            · exact fun hp => e x hx (by simp [hp])
        · intro ⟨a, b, e⟩
          have hb := List.nodup_cons.1 b
          refine ⟨fun x hx => a x (List.mem_cons_of_mem _ hx), hb.2, fun x hx hp => ?_⟩
          rcases List.mem_append.1 hp with hp | hp
          · exact e x (List.mem_cons_of_mem _ hx) hp
          · simp only [List.mem_cons, List.not_mem_nil, or_false] at hp
            subst hp; exact hb.1 hx
theorem projE_ok {t : Tab} {ns : List ByteArray} : projE t ns = 0 ↔ Right t ∧ (∀ n ∈ ns, n ∈ t.1.map (·.1)) ∧ ns.Nodup := by
  unfold projE
  rw [← right_iff]
  by_cases h : tbck t = 0
  · rw [if_neg (by simp [h]), prj_iff]; simp [h]
  · rw [if_pos h]; simp [h]
theorem at_name {t : Tab} (h : Right t) {n : ByteArray} (hn : n ∈ t.1.map (·.1)) : ∃ hk : at0 t n < t.1.length, t.1[at0 t n].1 = n ∧ ixc t.1 n 0 = (at0 t n : Nat) := by
  obtain ⟨k, hk, e, e2⟩ := ixc_mem h.nms hn
  have : at0 t n = k := by unfold at0; rw [e]; simp
  rw [this]
  exact ⟨hk, e2, e⟩
theorem proj_names {t : Tab} (h : Right t) {ns : List ByteArray} (hn : ∀ n ∈ ns, n ∈ t.1.map (·.1)) : (projT t ns).1.map (·.1) = ns := by
  unfold projT
  simp only [List.map_map]
  conv => rhs; rw [← List.map_id ns]
  apply List.map_congr_left
  intro n hx
  obtain ⟨hk, e, _⟩ := at_name h (hn n hx)
  simp [List.getD_eq_getElem?_getD, hk, e]
theorem proj_right {t : Tab} {ns : List ByteArray} (hp : projE t ns = 0) : Right (projT t ns) := by
  obtain ⟨h, hn, hd⟩ := projE_ok.1 hp
  have hN := proj_names h hn
  have hmany : ns ≠ [] → many (projT t ns) = many t := fun he => by
    cases ns with
    | nil => exact absurd rfl he
    | cons n r =>
      obtain ⟨hk, _⟩ := at_name h (hn n (by simp))
      have hk2 : at0 t n < t.2.length := by rw [← h.len]; exact hk
      have := h.row _ (List.getElem_mem hk2)
      show (((projT t (n :: r)).2).getD 0 []).length = _
      unfold projT
      simp [List.getD_eq_getElem?_getD, hk2, this]
  refine ⟨?_, by simp [projT], by rw [hN]; exact hd, ?_, ?_, ?_, ?_⟩
  · have := List.Nodup.length_le_of_subset hd (fun x hx => hn x hx)
    have h6 := h.six
    simp only [projT, List.length_map] at this ⊢
    omega
  · intro c hc
    obtain ⟨n, hx, rfl⟩ := List.mem_map.1 hc
    obtain ⟨hk, _⟩ := at_name h (hn n hx)
    rw [List.getD_eq_getElem?_getD, List.getElem?_eq_getElem hk]
    exact h.ok _ (List.getElem_mem hk)
  · intro k hk hk' x hx
    have hkn : k < ns.length := by simpa [projT] using hk
    obtain ⟨hj, _⟩ := at_name h (hn _ (List.getElem_mem hkn))
    have hj2 : at0 t ns[k] < t.2.length := by rw [← h.len]; exact hj
    have e1 : (projT t ns).1[k] = t.1[at0 t ns[k]] := by simp [projT, List.getD_eq_getElem?_getD, hj]
    have e2 : (projT t ns).2[k] = t.2[at0 t ns[k]] := by simp [projT, List.getD_eq_getElem?_getD, hj2]
    rw [e2] at hx
    rw [e1]
    exact h.cel _ hj hj2 x hx
  · intro l hl
    obtain ⟨n, hx, rfl⟩ := List.mem_map.1 hl
    rw [hmany (List.ne_nil_of_mem hx)]
    obtain ⟨hk, _⟩ := at_name h (hn n hx)
    have hk2 : at0 t n < t.2.length := by rw [← h.len]; exact hk
    rw [List.getD_eq_getElem?_getD, List.getElem?_eq_getElem hk2]
    exact h.row _ (List.getElem_mem hk2)
  · by_cases he : ns = []
    · subst he; rw [many_nil rfl]; omega
    · rw [hmany he]; exact h.lim
theorem proj_slice {t : Tab} {ns : List ByteArray} (hp : projE t ns = 0) (a b : Int) : projE (sliceT t a b) ns = 0 ∧ projT (sliceT t a b) ns = sliceT (projT t ns) a b := by
  obtain ⟨h, hn, hd⟩ := projE_ok.1 hp
  refine ⟨projE_ok.2 ⟨slice_right h _ _, hn, hd⟩, ?_⟩
  unfold projT sliceT at0
  simp only [List.map_map]
  congr 1
  apply List.map_congr_left
  intro n _
  simp only [List.getD_eq_getElem?_getD, List.getElem?_map, Function.comp_def]
  cases t.2[(ixc t.1 n 0).toNat]? <;> simp
theorem proj_proj {t : Tab} {ns fs : List ByteArray} (hp : projE t ns = 0) (hf : projE (projT t ns) fs = 0) : projE t fs = 0 ∧ projT (projT t ns) fs = projT t fs := by
  obtain ⟨h, hn, hd⟩ := projE_ok.1 hp
  obtain ⟨h', hn', hd'⟩ := projE_ok.1 hf
  have hN := proj_names h hn
  rw [hN] at hn'
  refine ⟨projE_ok.2 ⟨h, fun x hx => hn x (hn' x hx), hd'⟩, ?_⟩
  have key : ∀ f ∈ fs, ∃ hj : at0 (projT t ns) f < ns.length, ns[at0 (projT t ns) f] = f := fun f hx => by
    obtain ⟨hk, e, _⟩ := at_name h' (n := f) (by rw [hN]; exact hn' f hx)
    have hk2 : at0 (projT t ns) f < ns.length := by simpa [projT] using hk
    refine ⟨hk2, ?_⟩
    have e3 : ((projT t ns).1.map (·.1))[at0 (projT t ns) f]'(by simpa using hk) = f := by rw [List.getElem_map]; exact e
    simpa [hN] using e3
  have e1 : ∀ f ∈ fs, (projT t ns).1.getD (at0 (projT t ns) f) (ByteArray.empty, 0) = t.1.getD (at0 t f) (ByteArray.empty, 0) := fun f hx => by
    obtain ⟨hj, e⟩ := key f hx
    conv => lhs; arg 1; unfold projT
    rw [List.getD_eq_getElem?_getD, List.getElem?_map, List.getElem?_eq_getElem hj, e]; rfl
  have e2 : ∀ f ∈ fs, (projT t ns).2.getD (at0 (projT t ns) f) [] = t.2.getD (at0 t f) [] := fun f hx => by
    obtain ⟨hj, e⟩ := key f hx
    conv => lhs; arg 1; unfold projT
    rw [List.getD_eq_getElem?_getD, List.getElem?_map, List.getElem?_eq_getElem hj, e]; rfl
  exact Prod.ext (List.map_congr_left e1) (List.map_congr_left e2)
/-- a column more, and less again -/
theorem addE_ok {t : Tab} {c : Ent} {x : Cel} : addE t c x = 0 ↔ Right t ∧ colck c t.1 = 0 ∧ t.1.length ≠ 6 ∧ Cel.alone c.2 x = 0 := by
  unfold addE
  rw [← right_iff]
  by_cases h : tbck t = 0
  · rw [if_neg (by simp [h])]
    by_cases h2 : colck c t.1 = 0
    · rw [if_neg (by simp [h2])]
      by_cases h3 : t.1.length = 6
      · rw [if_pos h3]; simp [h3]
      · rw [if_neg h3]; simp [h, h2, h3]
    · rw [if_pos h2]; simp [h2]
  · rw [if_pos h]; simp [h]
theorem dropE_ok {t : Tab} {s : ByteArray} : dropE t s = 0 ↔ Right t ∧ s ∈ t.1.map (·.1) := by
  unfold dropE
  rw [← right_iff]
  by_cases h : tbck t = 0
  · rw [if_neg (by simp [h])]
    by_cases h2 : ixc t.1 s 0 < 0
    · rw [if_pos h2]
      exact ⟨fun e => by omega, fun e => absurd e.2 ((ixc_neg _ _ _).1 h2)⟩
    · rw [if_neg h2]
      exact ⟨fun _ => ⟨h, Classical.byContradiction fun hm => h2 ((ixc_neg _ _ _).2 hm)⟩, fun _ => rfl⟩
  · rw [if_pos h]; simp [h]
theorem add_right {t : Tab} {c : Ent} {x : Cel} (h : addE t c x = 0) : Right (addT t c x) := by
  obtain ⟨h, hc, h6, hx⟩ := addE_ok.1 h
  obtain ⟨c1, c2, c3⟩ := (colck_iff _ _).1 hc
  have hmany : many (addT t c x) = many t := by
    unfold many addT
    by_cases hn : t.2 = []
    · simp [hn, many]
    · have hp : 0 < t.2.length := List.length_pos_iff.2 hn
      simp [List.getD_eq_getElem?_getD, hp]
  have hs := h.six
  refine ⟨by simp [addT]; omega, by simp [addT, h.len], ?_, ?_, ?_, ?_, by rw [hmany]; exact h.lim⟩
  · simp only [addT, List.map_append, List.map_cons, List.map_nil]
    exact List.nodup_append.2 ⟨h.nms, by simp, fun a ha b hb => by
      simp only [List.mem_cons, List.not_mem_nil, or_false] at hb
      subst hb; exact fun e => c2 (e ▸ ha)⟩
  · intro d hd
    rcases List.mem_append.1 hd with hd | hd
    · exact h.ok d hd
    · simp only [List.mem_cons, List.not_mem_nil, or_false] at hd
      subst hd; exact ⟨c1, c3⟩
  · intro k hk hk' y hy
    simp only [addT, List.length_append, List.length_cons, List.length_nil] at hk hk'
    by_cases hlt : k < t.1.length
    · have hlt' : k < t.2.length := by rw [← h.len]; exact hlt
      simp only [addT, List.getElem_append_left hlt'] at hy
      simp only [addT, List.getElem_append_left hlt]
      exact h.cel k hlt hlt' y hy
    · obtain rfl : k = t.1.length := by omega
      have e1 : (addT t c x).1[t.1.length]'(by simp [addT]) = c := by simp [addT]
      have e2 : (addT t c x).2[t.1.length]'(by simp [addT, h.len]) = List.replicate (many t) x := by simp [addT, h.len]
      rw [e1]
      rw [e2] at hy
      rw [List.eq_of_mem_replicate hy]; exact hx
  · intro l hl
    rw [hmany]
    rcases List.mem_append.1 hl with hl | hl
    · exact h.row l hl
    · simp only [List.mem_cons, List.not_mem_nil, or_false] at hl
      subst hl; simp
theorem add_drop {t : Tab} {c : Ent} {x : Cel} (h : addE t c x = 0) : dropE (addT t c x) c.1 = 0 ∧ dropT (addT t c x) c.1 = t := by
  have hr := add_right h
  obtain ⟨h0, hc, h6, hx⟩ := addE_ok.1 h
  refine ⟨dropE_ok.2 ⟨hr, by simp [addT]⟩, ?_⟩
  have hk : t.1.length < (addT t c x).1.length := by simp [addT]
  have e := ixc_nd hr.nms t.1.length hk
  have e1 : (addT t c x).1[t.1.length] = c := by simp [addT]
  rw [e1] at e
  have e2 : at0 (addT t c x) c.1 = t.1.length := by unfold at0; rw [e]; simp
  unfold dropT
  rw [e2]
  refine Prod.ext ?_ ?_
  · simp [addT, List.eraseIdx_append_of_length_le]
  · simp [addT, h0.len, List.eraseIdx_append_of_length_le]
/-- a name more, and back again -/
theorem renE_ok {t : Tab} {s n : ByteArray} : renE t s n = 0 ↔ Right t ∧ s ∈ t.1.map (·.1) ∧ Nm.nm n.data.toList = true ∧ (n = s ∨ n ∉ t.1.map (·.1)) := by
  unfold renE
  rw [← right_iff]
  by_cases h : tbck t = 0
  · rw [if_neg (by simp [h])]
    have hr := (right_iff t).1 h
    by_cases h2 : ixc t.1 s 0 < 0
    · rw [if_pos h2]
      exact ⟨fun e => by omega, fun e => absurd e.2.1 ((ixc_neg _ _ _).1 h2)⟩
    · rw [if_neg h2]
      have hs : s ∈ t.1.map (·.1) := Classical.byContradiction fun hm => h2 ((ixc_neg _ _ _).2 hm)
      by_cases h3 : Nm.nm n.data.toList = false
      · rw [if_pos h3]
        exact ⟨fun e => by omega, fun e => by rw [h3] at e; exact absurd e.2.2.1 (by decide)⟩
      · rw [if_neg h3]
        have h3' : Nm.nm n.data.toList = true := by simpa using h3
        obtain ⟨i, hi, e1, e2⟩ := ixc_mem hr.nms hs
        by_cases hn : n ∈ t.1.map (·.1)
        · obtain ⟨j, hj, e3, e4⟩ := ixc_mem hr.nms hn
          rw [e1, e3]
          by_cases hij : i = j
          · subst hij
            rw [if_neg (by omega)]
            exact ⟨fun _ => ⟨h, hs, h3', .inl (by rw [← e4, e2])⟩, fun _ => rfl⟩
          · rw [if_pos (by omega)]
            refine ⟨fun e => by omega, fun e => ?_⟩
            rcases e.2.2.2 with e5 | e5
            · subst e5
              rw [e1] at e3
              omega
            · exact absurd hn e5
        · have := (ixc_neg t.1 n 0).2 hn
          rw [if_neg (by omega)]
          exact ⟨fun _ => ⟨h, hs, h3', .inr hn⟩, fun _ => rfl⟩
  · rw [if_pos h]; simp [h]
theorem ren_get {t : Tab} {s n : ByteArray} (k : Nat) (hk : k < t.1.length) : (renT t s n).1[k]'(by simp [renT]; exact hk) = if at0 t s = k then (n, t.1[k].2) else t.1[k] := by
  simp [renT, List.getElem_modify]
theorem ren_right {t : Tab} {s n : ByteArray} (h : renE t s n = 0) : Right (renT t s n) := by
  obtain ⟨hR, hs, hn, hd⟩ := renE_ok.1 h
  clear h
  have h := hR
  obtain ⟨hk, e, _⟩ := at_name h hs
  have hl : (renT t s n).1.length = t.1.length := by simp [renT]
  refine ⟨by rw [hl]; exact h.six, by rw [hl]; exact h.len, ?_, ?_, ?_, h.row, h.lim⟩
  · refine List.pairwise_iff_getElem.2 (fun i j hi hj hij => ?_)
    rw [List.length_map, hl] at hi hj
    rw [List.getElem_map, List.getElem_map, ren_get i hi, ren_get j hj]
    have hne : t.1[i].1 ≠ t.1[j].1 := fun e => by
      have := nodup_get h.nms (i := i) (j := j) (by simpa using hi) (by simpa using hj) (by simpa using e)
      omega
    have hin : ∀ q (hq : q < t.1.length), q ≠ at0 t s → t.1[q].1 ≠ n := fun q hq hne' e' => by
      rcases hd with rfl | hd
      · have := nodup_get h.nms (i := q) (j := at0 t n) (by simpa using hq) (by simpa using hk) (by simp only [List.getElem_map]; rw [e', e])
        exact hne' this
      · exact hd (List.mem_map.2 ⟨_, List.getElem_mem hq, e'⟩)
    by_cases h1 : at0 t s = i
    · rw [if_pos h1, if_neg (by omega)]
      exact fun e' => hin j hj (by omega) e'.symm
    · rw [if_neg h1]
      by_cases h2 : at0 t s = j
      · rw [if_pos h2]; exact hin i hi (by omega)
      · rw [if_neg h2]; exact hne
  · intro c hc
    obtain ⟨k, hk', rfl⟩ := List.mem_iff_getElem.1 hc
    rw [hl] at hk'
    rw [ren_get k hk']
    have := h.ok _ (List.getElem_mem hk')
    split
    · exact ⟨hn, this.2⟩
    · exact this
  · intro k hk1 hk2 x hx
    rw [hl] at hk1
    have := h.cel k hk1 hk2 x hx
    rw [ren_get k hk1]
    split
    · exact this
    · exact this
theorem ren_back {t : Tab} {s n : ByteArray} (h : renE t s n = 0) : renE (renT t s n) n s = 0 ∧ renT (renT t s n) n s = t := by
  have hr := ren_right h
  obtain ⟨h, hs, hn, hd⟩ := renE_ok.1 h
  obtain ⟨hk, e, _⟩ := at_name h hs
  have hl : (renT t s n).1.length = t.1.length := by simp [renT]
  have hk' : at0 t s < (renT t s n).1.length := by rw [hl]; exact hk
  have e1 : (renT t s n).1[at0 t s].1 = n := by rw [ren_get _ hk, if_pos rfl]
  have e2 := ixc_nd hr.nms _ hk'
  rw [e1] at e2
  have e3 : at0 (renT t s n) n = at0 t s := by
    show (ixc (renT t s n).1 n 0).toNat = _
    rw [e2]; simp
  refine ⟨renE_ok.2 ⟨hr, List.mem_map.2 ⟨_, List.getElem_mem hk', e1⟩, ?_, ?_⟩, ?_⟩
  · rw [← e]; exact (h.ok _ (List.getElem_mem hk)).1
  · by_cases hns : s = n
    · exact .inl hns
    · right
      intro hm
      obtain ⟨c, hc, e4⟩ := List.mem_map.1 hm
      obtain ⟨j, hj, rfl⟩ := List.mem_iff_getElem.1 hc
      rw [hl] at hj
      rw [ren_get j hj] at e4
      by_cases h1 : at0 t s = j
      · rw [if_pos h1] at e4; exact hns e4.symm
      · rw [if_neg h1] at e4
        have := nodup_get h.nms (i := j) (j := at0 t s) (by simpa using hj) (by simpa using hk) (by simp only [List.getElem_map]; rw [e4, e])
        exact h1 this.symm
  · refine Prod.ext ?_ rfl
    apply List.ext_getElem
    · simp [renT]
    · intro j h1 h2
      have g1 := ren_get (t := renT t s n) (s := n) (n := s) j (by rw [hl]; exact h2)
      rw [g1, e3, ren_get j h2]
      by_cases hj : at0 t s = j
      · subst hj
        rw [if_pos rfl, if_pos rfl]
        exact Prod.ext e.symm rfl
      · rw [if_neg hj, if_neg hj]
end Hy.Tb
end
