/- Dict: plain words and laws: books of texts. No program in sight. -/
import Derived.Test.YtolhifnlahllnaaDoorTxt
import Derived.Lib.SlicesCompact
namespace Hy.Dct
open Go
abbrev T := List UInt8
theorem le_lt {a b : T} (h : a ≤ b) (hn : a ≠ b) : a < b := by
  rcases Classical.em (b ≤ a) with h2 | h2
  · exact absurd (List.le_antisymm h h2) hn
  · exact List.not_le.1 h2
theorem lt_le {a b : T} (h : a < b) : a ≤ b := List.le_of_lt h
theorem tot3 (a b : T) : a < b ∨ a = b ∨ b < a := by
  rcases Classical.em (a = b) with h | h
  · exact .inr (.inl h)
  · rcases List.le_total a b with h2 | h2
    · exact .inl (le_lt h2 h)
    · exact .inr (.inr (le_lt h2 (fun e => h e.symm)))
theorem lt_irr (a : T) : ¬ a < a := List.lt_irrefl a
theorem lt_tr {a b c : T} (h : a < b) (k : b < c) : a < c := List.lt_trans h k
theorem lt_asy {a b : T} (h : a < b) : ¬ b < a := fun k => lt_irr a (lt_tr h k)
/-- sorted -/
def srt (l : List T) : List T := l.mergeSort (fun x y => decide (x ≤ y))
theorem srt_mem (l : List T) (x : T) : x ∈ srt l ↔ x ∈ l := List.mem_mergeSort
theorem srt_len (l : List T) : (srt l).length = l.length := List.length_mergeSort l
theorem srt_sorted (l : List T) : (srt l).Pairwise (· ≤ ·) := by
  have h := List.pairwise_mergeSort (le := fun x y : T => decide (x ≤ y)) (by
    intro a b c h1 h2
    exact decide_eq_true (List.le_trans (of_decide_eq_true h1) (of_decide_eq_true h2))) (by
    intro a b
    rcases List.le_total a b with h | h
    · simp [h]
    · simp [h]) l
  exact h.imp fun h => of_decide_eq_true h
/-- the book of a list -/
@[irreducible] def bk (l : List T) : List T := Lib.compact (srt l)
theorem bk_eq (l : List T) : Lib.compact (srt l) = bk l := by unfold bk; rfl
theorem upto_spec (d : Array T) (hs : ∀ i j, i < j → j < d.size → d[i]! ≤ d[j]!) : ∀ m, m ≤ d.size → (Lib.compactUpTo d m).Pairwise (· < ·) ∧ (∀ x, x ∈ Lib.compactUpTo d m ↔ ∃ j, j < m ∧ d[j]! = x) := by
  intro m
  induction m with
  | zero => intro _; exact ⟨by simp [Lib.compactUpTo], fun x => by simp [Lib.compactUpTo]⟩
  | succ m ih =>
    intro hm
    obtain ⟨h1, h2⟩ := ih (by omega)
    rw [Lib.compactUpTo_succ]
    by_cases hk : Lib.keeps d m = true
    · rw [if_pos hk]
      have hlt : ∀ x ∈ Lib.compactUpTo d m, x < d[m]! := fun x hx => by
        obtain ⟨j, hj, rfl⟩ := (h2 x).1 hx
        have hm0 : m ≠ 0 := by omega
        have h3 : d[m - 1]! < d[m]! := by
          refine le_lt (hs _ _ (by omega) (by omega)) fun e => ?_
          unfold Lib.keeps at hk
          simp [hm0, e] at hk
        rcases Nat.lt_or_ge j (m - 1) with h | h
        · exact List.lt_of_le_of_lt (hs j (m - 1) h (by omega)) h3
        · rw [show j = m - 1 by omega]; exact h3
      refine ⟨List.pairwise_append.2 ⟨h1, List.pairwise_singleton _ _, fun a ha b hb => ?_⟩, fun x => ?_⟩
      · rw [List.mem_singleton] at hb; subst hb; exact hlt a ha
      · rw [List.mem_append, h2, List.mem_singleton]
        constructor
        · rintro (⟨j, hj, e⟩ | e)
          · exact ⟨j, by omega, e⟩
          · exact ⟨m, by omega, e.symm⟩
        · rintro ⟨j, hj, e⟩
          rcases Nat.lt_or_ge j m with h | h
          · exact .inl ⟨j, h, e⟩
          · exact .inr (by rw [← e, show j = m by omega])
    · rw [if_neg hk, List.append_nil]
      have hm0 : m ≠ 0 := fun e => hk (by subst e; simp [Lib.keeps])
      have he : d[m]! = d[m - 1]! := by
        unfold Lib.keeps at hk
        simp [hm0] at hk
        exact hk
      refine ⟨h1, fun x => ?_⟩
      rw [h2]
      constructor
      · rintro ⟨j, hj, e⟩; exact ⟨j, by omega, e⟩
      · rintro ⟨j, hj, e⟩
        rcases Nat.lt_or_ge j m with h | h
        · exact ⟨j, h, e⟩
        · exact ⟨m - 1, by omega, by rw [← e, show j = m by omega, he]⟩
theorem bk_spec (l : List T) : (bk l).Pairwise (· < ·) ∧ ∀ x, x ∈ bk l ↔ x ∈ l := by
  have hp := srt_sorted l
  have h := upto_spec (srt l).toArray (fun i j hij hj => by
    have hj' : j < (srt l).length := by simpa using hj
    have := List.pairwise_iff_getElem.1 hp i j (by omega) hj' hij
    rw [getElem!_pos _ i (by simp; omega), getElem!_pos _ j (by simpa using hj')]
    simpa using this) (srt l).length (by simp)
  rw [← bk_eq]
  refine ⟨h.1, fun x => ?_⟩
  show x ∈ Lib.compactUpTo (srt l).toArray (srt l).length ↔ _
  rw [h.2, ← srt_mem l x]
  constructor
  · rintro ⟨j, hj, rfl⟩
    rw [getElem!_pos _ j (by simpa using hj)]
    simp
  · intro hx
    obtain ⟨j, hj, rfl⟩ := List.mem_iff_getElem.1 hx
    exact ⟨j, hj, by rw [getElem!_pos _ j (by simpa using hj)]; simp⟩
theorem bk_len (l : List T) : (bk l).length ≤ l.length := by
  rw [← bk_eq, ← srt_len l]
  show ((List.filter _ (List.range _)).map _).length ≤ _
  rw [List.length_map]
  exact Nat.le_trans (List.length_filter_le _ _) (by simp)
/-- how many of a book are below a text -/
@[irreducible] def plc (b : List T) (s : T) : Nat := b.countP fun x => decide (x < s)
theorem plc_eq (b : List T) (s : T) : plc b s = b.countP fun x => decide (x < s) := by unfold plc; rfl
theorem plc_le (b : List T) (s : T) : plc b s ≤ b.length := by rw [plc_eq]; exact List.countP_le_length
theorem plc_at {b : List T} (hb : b.Pairwise (· < ·)) {k : Nat} (hk : k < b.length) : plc b b[k] = k := by
  rw [plc_eq]
  induction b generalizing k with
  | nil => simp at hk
  | cons x b ih =>
    obtain ⟨h1, h2⟩ := List.pairwise_cons.1 hb
    cases k with
    | zero =>
      rw [List.countP_cons]
      have : b.countP (fun y => decide (y < x)) = 0 := List.countP_eq_zero.2 fun y hy => by
        have := lt_asy (h1 y hy); simpa using this
      simp [this, lt_irr x]
    | succ k =>
      have hk' : k < b.length := by simpa using hk
      have h3 := h1 b[k] (List.getElem_mem hk')
      rw [List.countP_cons]
      have := ih h2 hk'
      simp only [List.getElem_cons_succ]
      rw [this]
      simp [h3]
theorem plc_mem {b : List T} (hb : b.Pairwise (· < ·)) {s : T} (hs : s ∈ b) : b[plc b s]? = some s := by
  obtain ⟨k, hk, rfl⟩ := List.mem_iff_getElem.1 hs
  rw [plc_at hb hk, List.getElem?_eq_getElem hk]
theorem plc_lt {b : List T} (hb : b.Pairwise (· < ·)) {s : T} (hs : s ∈ b) : plc b s < b.length := (List.getElem?_eq_some_iff.1 (plc_mem hb hs)).1
/-- places of a list's texts -/
def cds (l : List T) : List Nat := l.map (plc (bk l))
theorem cds_len (l : List T) : (cds l).length = l.length := by simp [cds]
theorem cds_lt (l : List T) : ∀ x ∈ cds l, x < (bk l).length := fun x hx => by
  obtain ⟨s, hs, rfl⟩ := List.mem_map.1 hx
  exact plc_lt (bk_spec l).1 (((bk_spec l).2 s).2 hs)
/-- too many, or one too long? -/
def mny (l : List T) : Bool := decide (64 < l.length) || l.any fun s => decide (16 < s.length)
theorem mny_false {l : List T} (h : mny l = false) : l.length ≤ 64 ∧ ∀ s ∈ l, s.length ≤ 16 := by
  unfold mny at h
  rw [Bool.or_eq_false_iff, decide_eq_false_iff_not, List.any_eq_false] at h
  exact ⟨by omega, fun s hs => by have := h.2 s hs; simp at this; omega⟩
/-- a book is right: each text less than the next one -/
def asc : List T → Bool
  | [] => true
  | [_] => true
  | x :: y :: r => decide (x < y) && asc (y :: r)
theorem asc_iff (b : List T) : asc b = true ↔ b.Pairwise (· < ·) := by
  induction b with
  | nil => simp [asc]
  | cons x b ih =>
    cases b with
    | nil => simp [asc]
    | cons y r =>
      rw [asc, Bool.and_eq_true, decide_eq_true_eq, ih, List.pairwise_cons (a := x)]
      constructor
      · rintro ⟨h1, h2⟩
        refine ⟨fun z hz => ?_, h2⟩
        rcases List.mem_cons.1 hz with rfl | hz
        · exact h1
        · exact lt_tr h1 ((List.pairwise_cons.1 h2).1 z hz)
      · rintro ⟨h1, h2⟩; exact ⟨h1 y (by simp), h2⟩
@[irreducible] def chk (b : List T) : Nat := if mny b = true then 2 else if asc b = true then 0 else 4
theorem chk_many {b : List T} (h : mny b = true) : chk b = 2 := by unfold chk; rw [if_pos h]
theorem chk_ok {b : List T} (h : mny b = false) (h2 : asc b = true) : chk b = 0 := by unfold chk; rw [if_neg (by simp [h]), if_pos h2]
theorem chk_state {b : List T} (h : mny b = false) (h2 : asc b = false) : chk b = 4 := by unfold chk; rw [if_neg (by simp [h]), if_neg (by simp [h2])]
theorem chk_zero {b : List T} (h : chk b = 0) : mny b = false ∧ b.Pairwise (· < ·) := by
  unfold chk at h
  split at h
  · cases h
  · split at h
    · rename_i h1 h2; exact ⟨by simpa using h1, (asc_iff b).1 h2⟩
    · cases h
theorem chk_cases (b : List T) : chk b = 0 ∨ chk b = 2 ∨ chk b = 4 := by unfold chk; (repeat' split) <;> simp
/-- in a list that is not right two neighbours are not -/
theorem asc_take (b : List T) (k : Nat) (hk : k + 1 < b.length) (h : asc (b.take (k + 1)) = true) : asc (b.take (k + 2)) = decide (b[k] < b[k + 1]) := by
  have h1 := (asc_iff _).1 h
  have e : b.take (k + 2) = b.take (k + 1) ++ [b[k + 1]] := by rw [List.take_succ_eq_append_getElem hk]
  by_cases hl : b[k] < b[k + 1]
  · rw [decide_eq_true hl, asc_iff, e]
    refine List.pairwise_append.2 ⟨h1, List.pairwise_singleton _ _, fun x hx y hy => ?_⟩
    rw [List.mem_singleton] at hy
    subst hy
    obtain ⟨j, hj, rfl⟩ := List.mem_iff_getElem.1 hx
    rw [List.length_take] at hj
    rw [List.getElem_take]
    rcases Nat.lt_or_ge j k with h3 | h3
    · have := List.pairwise_iff_getElem.1 h1 j k (by rw [List.length_take]; omega) (by rw [List.length_take]; omega) h3
      rw [List.getElem_take, List.getElem_take] at this
      exact lt_tr this hl
    · have : j = k := by omega
      subst this; exact hl
  · rw [decide_eq_false hl]
    cases hc : asc (b.take (k + 2)) with
    | false => rfl
    | true =>
      have h2 := (asc_iff _).1 hc
      have := List.pairwise_iff_getElem.1 h2 k (k + 1) (by rw [List.length_take]; omega) (by rw [List.length_take]; omega) (by omega)
      rw [List.getElem_take, List.getElem_take] at this
      exact absurd this hl
theorem asc_false_take (b : List T) (k : Nat) (h : asc (b.take k) = false) : asc b = false := by
  cases hc : asc b with
  | false => rfl
  | true =>
    have h1 := ((asc_iff b).1 hc).sublist (List.take_sublist k b)
    rw [(asc_iff _).2 h1] at h; cases h
/-- texts of places -/
@[irreducible] def txt (b : List T) (c : List Nat) : List T × Nat :=
  if chk b ≠ 0 then ([], chk b) else if 64 < c.length then ([], 2) else if c.all (fun x => decide (x < b.length)) = true then (c.map fun x => b.getD x [], 0) else ([], 3)
theorem txt_bad {b : List T} {c : List Nat} (h : chk b ≠ 0) : txt b c = ([], chk b) := by unfold txt; rw [if_pos h]
theorem txt_many {b : List T} {c : List Nat} (h : chk b = 0) (h2 : 64 < c.length) : txt b c = ([], 2) := by unfold txt; rw [if_neg (fun x => x h), if_pos h2]
theorem txt_range {b : List T} {c : List Nat} (h : chk b = 0) (h2 : ¬ 64 < c.length) {j : Nat} (hj : j < c.length) (h3 : b.length ≤ c[j]) : txt b c = ([], 3) := by
  unfold txt; rw [if_neg (fun x => x h), if_neg h2, if_neg]
  intro e
  have := of_decide_eq_true (List.all_eq_true.1 e c[j] (List.getElem_mem hj))
  omega
theorem txt_ok {b : List T} {c : List Nat} (h : chk b = 0) (h2 : ¬ 64 < c.length) (h3 : ∀ j (hj : j < c.length), c[j] < b.length) : txt b c = (c.map fun x => b.getD x [], 0) := by
  unfold txt; rw [if_neg (fun x => x h), if_neg h2, if_pos]
  refine List.all_eq_true.2 fun x hx => ?_
  obtain ⟨j, hj, rfl⟩ := List.mem_iff_getElem.1 hx
  exact decide_eq_true (h3 j hj)
/-- a list comes of its book and its places -/
theorem txt_back (l : List T) (h : mny l = false) : txt (bk l) (cds l) = (l, 0) := by
  obtain ⟨h1, h2⟩ := mny_false h
  obtain ⟨s1, s2⟩ := bk_spec l
  have hb : mny (bk l) = false := by
    unfold mny
    rw [Bool.or_eq_false_iff, decide_eq_false_iff_not, List.any_eq_false]
    exact ⟨by have := bk_len l; omega, fun s hs => by have := h2 s ((s2 s).1 hs); simp; omega⟩
  rw [txt_ok (chk_ok hb ((asc_iff _).2 s1)) (by rw [cds_len]; omega) (fun j hj => cds_lt l _ (List.getElem_mem hj))]
  unfold cds
  rw [List.map_map]
  congr 1
  conv => rhs; rw [← List.map_id l]
  refine List.map_congr_left fun s hs => ?_
  show (bk l).getD (plc (bk l) s) [] = s
  rw [List.getD_eq_getElem?_getD, plc_mem s1 ((s2 s).2 hs)]; rfl
theorem bk_chk (l : List T) (h : mny l = false) : chk (bk l) = 0 := by
  have := txt_back l h
  cases hc : chk (bk l) with
  | zero => rfl
  | succ n => rw [txt_bad (by rw [hc]; exact Nat.succ_ne_zero n), hc] at this; injection this with _ h
/-- places stand in the order of texts -/
theorem plc_mono {b : List T} (hb : b.Pairwise (· < ·)) {s t : T} (hs : s ∈ b) (ht : t ∈ b) : plc b s < plc b t ↔ s < t := by
  obtain ⟨i, hi, rfl⟩ := List.mem_iff_getElem.1 hs
  obtain ⟨k, hk, rfl⟩ := List.mem_iff_getElem.1 ht
  rw [plc_at hb hi, plc_at hb hk]
  constructor
  · intro h; exact List.pairwise_iff_getElem.1 hb i k hi hk h
  · intro h
    rcases Nat.lt_trichotomy i k with h1 | h1 | h1
    · exact h1
    · subst h1; exact absurd h (lt_irr _)
    · exact absurd (List.pairwise_iff_getElem.1 hb k i hk hi h1) (lt_asy h)
theorem plc_inj {b : List T} (hb : b.Pairwise (· < ·)) {s t : T} (hs : s ∈ b) (ht : t ∈ b) : plc b s = plc b t ↔ s = t := by
  refine ⟨fun h => ?_, fun h => by rw [h]⟩
  have h1 := plc_mem hb hs
  rw [h, plc_mem hb ht] at h1
  exact (Option.some.inj h1).symm
/-- how many of a book are not above a text -/
def ple (b : List T) (s : T) : Nat := b.countP fun x => decide (x ≤ s)
end Hy.Dct
namespace Hy.Dct
/-- each text once, where it comes first -/
def nubS (acc : List T) (x : T) : List T := if x ∈ acc then acc else acc ++ [x]
def nub (l : List T) : List T := l.foldl nubS []
theorem nub_snoc (l : List T) (x : T) : nub (l ++ [x]) = nubS (nub l) x := by simp [nub]
theorem nub_spec (l : List T) : (nub l).Nodup ∧ ∀ x, x ∈ nub l ↔ x ∈ l := by
  generalize hn : l.length = n
  induction n generalizing l with
  | zero => rw [List.length_eq_zero_iff.1 hn]; simp [nub]
  | succ n ih =>
    rcases List.eq_nil_or_concat l with rfl | ⟨l', x, rfl⟩
    · simp at hn
    · rw [List.concat_eq_append] at hn ⊢
      obtain ⟨h1, h2⟩ := ih l' (by simpa using hn)
      rw [nub_snoc]
      unfold nubS
      split
      · rename_i h
        refine ⟨h1, fun y => ?_⟩
        rw [h2, List.mem_append, List.mem_singleton]
        constructor
        · exact .inl
        · rintro (h3 | rfl)
          · exact h3
          · exact (h2 _).1 h
      · rename_i h
        refine ⟨List.nodup_append.2 ⟨h1, by simp, fun a ha b hb => ?_⟩, fun y => by rw [List.mem_append, List.mem_append, h2]⟩
        rw [List.mem_singleton] at hb
        subst hb
        intro e; subst e; exact h ha
theorem nub_plc (l : List T) (s : T) : (nub l).countP (fun x => decide (x < s)) = plc (bk l) s := by
  rw [plc_eq]
  obtain ⟨h1, h2⟩ := nub_spec l
  obtain ⟨h3, h4⟩ := bk_spec l
  have h5 : (bk l).Nodup := h3.imp fun h e => by subst e; exact lt_irr _ h
  exact (List.perm_ext_iff_of_nodup h1 h5 |>.2 fun a => by rw [h2, h4]).countP_eq _
/-- the document's count, so far -/
def cntB (l : List T) (s : T) (m : Nat) : Nat := (nub (l.take m)).countP fun x => decide (x < s)
theorem cntB_step (l : List T) (s : T) (m : Nat) (hm : m < l.length) : cntB l s (m + 1) = if l[m] ∉ l.take m ∧ l[m] < s then cntB l s m + 1 else cntB l s m := by
  unfold cntB
  rw [List.take_succ_eq_append_getElem hm, nub_snoc]
  unfold nubS
  have h := (nub_spec (l.take m)).2 l[m]
  by_cases h1 : l[m] ∈ l.take m
  · rw [if_pos (h.2 h1), if_neg (fun x => x.1 h1)]
  · rw [if_neg (fun x => h1 (h.1 x)), List.countP_append]
    by_cases h2 : l[m] < s
    · rw [if_pos ⟨h1, h2⟩]; simp [h2]
    · rw [if_neg (fun x => h2 x.2)]; simp [h2]
theorem cntB_all (l : List T) (s : T) : cntB l s l.length = plc (bk l) s := by unfold cntB; rw [List.take_length, nub_plc]
theorem cntB_le (l : List T) (s : T) (m : Nat) : cntB l s m ≤ m := by
  induction m with
  | zero => simp [cntB, nub]
  | succ m ih =>
    by_cases hm : m < l.length
    · rw [cntB_step l s m hm]; split <;> omega
    · unfold cntB at *
      rw [List.take_of_length_le (by omega)] at *; omega
/-- the greatest place but one more -/
def mst : List Nat → Nat
  | [] => 0
  | x :: r => max (x + 1) (mst r)
theorem mst_snoc (l : List Nat) (x : Nat) : mst (l ++ [x]) = max (mst l) (x + 1) := by
  induction l with
  | nil => simp [mst]
  | cons y l ih => simp only [List.cons_append, mst, ih]; omega
theorem mst_ge (l : List Nat) : ∀ x ∈ l, x < mst l := by
  induction l with
  | nil => simp
  | cons y l ih =>
    intro x hx
    rcases List.mem_cons.1 hx with rfl | hx
    · simp only [mst]; omega
    · have := ih x hx; simp only [mst]; omega
theorem mst_le (l : List Nat) (n : Nat) (h : ∀ x ∈ l, x < n) : mst l ≤ n := by
  induction l with
  | nil => simp [mst]
  | cons y l ih =>
    have h1 := h y (by simp)
    have h2 := ih fun x hx => h x (by simp [hx])
    simp only [mst]; omega
theorem mst_cds (l : List T) : mst (cds l) = (bk l).length := by
  obtain ⟨s1, s2⟩ := bk_spec l
  refine Nat.le_antisymm (mst_le _ _ (cds_lt l)) ?_
  rcases Nat.eq_zero_or_pos (bk l).length with h | h
  · omega
  · have hk : (bk l).length - 1 < (bk l).length := by omega
    have hm : (bk l).length - 1 ∈ cds l := List.mem_map.2 ⟨(bk l)[(bk l).length - 1], (s2 _).1 (List.getElem_mem hk), plc_at s1 hk⟩
    have := mst_ge _ _ hm
    omega
theorem cds_has (l : List T) (n : Nat) (h : n < (bk l).length) : ∃ i, ∃ hi : i < l.length, plc (bk l) l[i] = n := by
  obtain ⟨s1, s2⟩ := bk_spec l
  obtain ⟨i, hi, e⟩ := List.mem_iff_getElem.1 ((s2 _).1 (List.getElem_mem h))
  exact ⟨i, hi, by rw [e, plc_at s1 h]⟩
theorem cds_text (l : List T) (n i : Nat) (hi : i < l.length) (h : plc (bk l) l[i] = n) : (bk l)[n]? = some l[i] := by
  obtain ⟨s1, s2⟩ := bk_spec l
  rw [← h]; exact plc_mem s1 ((s2 _).2 (List.getElem_mem hi))
end Hy.Dct
