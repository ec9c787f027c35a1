/- Conditions: what a condition is of a row is in the set of its columns: plain laws. No program in sight. -/
import Derived.Test.YtpheegfanljeeaaQca
import Derived.Test.YtpheegfanljeeaaStp
namespace Hy.Cnd
open Cel
/-- the join of sets holds the join of values -/
theorem join_in' : ∀ X : Nat, X < 8 → ∀ Y : Nat, Y < 8 → ∀ x : Nat, x < 3 → ∀ y : Nat, y < 3 → (!(hs X x && hs Y y) || (hs (alls 5 X Y) (jn 5 x y) && hs (alls 6 X Y) (jn 6 x y))) = true := by decide +kernel
theorem join_in (X : Nat) (hX : X < 8) (Y : Nat) (hY : Y < 8) (x : Nat) (hx : x < 3) (y : Nat) (hy : y < 3) (h1 : hs X x = true) (h2 : hs Y y = true) : hs (alls 5 X Y) (jn 5 x y) = true ∧ hs (alls 6 X Y) (jn 6 x y) = true := by
  have h := join_in' X hX Y hY x hx y hy
  rw [h1, h2] at h
  simpa using h
theorem not_in' : ∀ X : Nat, X < 8 → ∀ x : Nat, x < 3 → (!hs X x || hs (alls 7 X X) (jn 7 x x)) = true := by decide +kernel
theorem not_in (X : Nat) (hX : X < 8) (x : Nat) (hx : x < 3) (h1 : hs X x = true) : hs (alls 7 X X) (jn 7 x x) = true := by
  have h := not_in' X hX x hx
  rw [h1] at h
  simpa using h
theorem ms_no (u y : Bool) : hs (ms true u y) 0 = true := by cases u <;> cases y <;> decide +kernel
theorem ms_un (n y : Bool) : hs (ms n true y) 1 = true := by cases n <;> cases y <;> decide +kernel
theorem ms_yes (n u : Bool) : hs (ms n u true) 2 = true := by cases n <;> cases u <;> decide +kernel
theorem b2_hs {n u y b : Bool} (h0 : b = false → n = true) (h1 : b = true → y = true) : hs (ms n u y) (2 * b2 b) = true := by
  cases b
  · rw [h0 rfl]; exact ms_no _ _
  · rw [h1 rfl]; exact ms_yes _ _
/-- a cell as the filters see it -/
def toC (c : Cel) : C := ⟨c.1, c.2.1, c.2.2⟩
/-- what is known of a leaf's column holds what the leaf is of each of its cells -/
theorem leaf_in (c : Cnd) (l : List Cel) (hl : ∀ x ∈ l, Cel.ok x) (x : Cel) (hx : x ∈ l) (hop : 1 ≤ c.1 ∧ c.1 ≤ 4) (f : Bloom.F) (hf : ∀ y ∈ l, Bloom.may f (toC y) = true) : hs (kn c (rawS l) f) (askd c x) = true := by
  obtain ⟨op, col, d⟩ := c
  have hm := rawS_mm l hl
  obtain ⟨m1, m2, m3⟩ := mn_le l hl
  obtain ⟨M1, M2, M3⟩ := mx_ge l hl
  simp only at hop
  unfold kn askd
  rw [hm]
  simp only
  have hd : (dense l).length ≤ l.length := dense_len l
  by_cases h0 : x.1 = 0
  · have hlt : (dense l).length < l.length := by
      have hnx : x ∉ dense l := by unfold dense; rw [List.mem_filter]; simp [h0]
      rcases Nat.lt_or_ge (dense l).length l.length with h | h
      · exact h
      · exfalso
        have he : dense l = l := by
          have hs := List.filter_sublist (l := l) (p := fun c => decide (c.1 ≠ 0))
          exact hs.eq_of_length (Nat.le_antisymm hd h)
        rw [he] at hnx
        exact hnx hx
    have hn : decide (0 < (l.length : Int) - ((dense l).length : Int)) = true := by simp; omega
    rw [hn]
    by_cases h4 : op = 4
    · rw [if_pos h4]
      unfold knB
      rw [if_pos h4, decide_eq_true h0]
      exact ms_yes _ _
    · rw [if_neg h4, if_pos h0]
      unfold knB
      rw [if_neg h4]
      (repeat' split) <;> exact ms_un _ _
  · have hdx : x ∈ dense l := by unfold dense; rw [List.mem_filter]; exact ⟨hx, by simpa using h0⟩
    have hpos : 0 < (dense l).length := List.length_pos_of_mem hdx
    have hsm : decide ((l.length : Int) - ((dense l).length : Int) < (l.length : Int)) = true := by simp; omega
    obtain ⟨_, hle⟩ := m2 x hx h0
    obtain ⟨_, hge⟩ := M2 x hx h0
    rw [hsm]
    generalize mn l = a at *
    generalize mx l = b at *
    by_cases h4 : op = 4
    · rw [if_pos h4]
      unfold knB
      rw [if_pos h4, decide_eq_false h0]
      exact ms_no _ _
    · rw [if_neg h4, if_neg h0]
      unfold knB
      rw [if_neg h4, if_neg (by decide)]
      by_cases h1 : op = 1
      · rw [if_pos h1, if_pos h1]
        by_cases hxd : x = d
        · subst hxd
          have hmay : Bloom.may f ⟨x.1, x.2.1, x.2.2⟩ = true := hf x hx
          rw [decide_eq_true rfl, hle, hge, hmay]
          simp only [Bool.or_self, Bool.not_true, Bool.false_eq_true, if_false]
          split <;> exact ms_yes _ _
        · rw [decide_eq_false hxd]
          split
          · exact ms_no _ _
          · rename_i hnot
            split
            · rename_i heq
              have hab : a = b := of_decide_eq_true heq
              subst hab
              have hxa : x = a := eq_of_not hle hge
              simp only [Bool.or_eq_true, not_or, Bool.not_eq_true] at hnot
              have hda : d = a := eq_of_not hnot.1.1 hnot.1.2
              exact absurd (hxa.trans hda.symm) hxd
            · exact ms_no _ _
      · rw [if_neg h1, if_neg h1]
        by_cases h2 : op = 2
        · rw [if_pos h2, if_pos h2]
          refine b2_hs (fun h => ?_) (fun h => ?_)
          · cases hbd : less b d
            · rfl
            · exfalso
              -- x ≤ b < d
              have : less x d = true := by
                cases hxd : less x d
                · have := le_trans' (a := d) (b := x) (c := b) hxd hge
                  rw [hbd] at this; cases this
                · rfl
              rw [h] at this; cases this
          · have : less a d = true := by
              cases had : less a d
              · have := le_trans' (a := d) (b := a) (c := x) had hle
                rw [h] at this; cases this
              · rfl
            rw [this, Bool.or_true]
        · rw [if_neg h2, if_neg h2]
          refine b2_hs (fun h => ?_) (fun h => ?_)
          · cases hda : less d a
            · rfl
            · exfalso
              have : less d x = true := by
                cases hdx : less d x
                · have := le_trans' (a := a) (b := x) (c := d) hle hdx
                  rw [hda] at this; cases this
                · rfl
              rw [h] at this; cases this
          · have : less d b = true := by
              cases hdb : less d b
              · have := le_trans' (a := x) (b := b) (c := d) hge hdb
                rw [h] at this; cases this
              · rfl
            rw [this, Bool.or_true]
/-- a tree's set holds its value -/
theorem tree_in {ks : List Int} {f : Cnd → Nat} {g : Cnd → Nat} (hf : ∀ c, f c ≤ 2) (hg : ∀ c, g c < 8) (t : Tm) (hok : t.ok) (hal : ∀ c ∈ t.code, al ks c = 0) (h : ∀ c ∈ t.code, al ks c = 0 → sz c.1 = 0 → hs (g c) (f c) = true) : hs (t.ev g alls) (t.ev f jn) = true := by
  have hev : ∀ u : Tm, u.ev f jn ≤ 2 := fun u => ev_le hf (fun _ _ _ hx hy => jn_le hx hy) u
  have hev8 : ∀ u : Tm, u.ev g alls < 8 := fun u => Nat.lt_succ_of_le (ev_le (B := 7) (fun c => Nat.lt_succ_iff.1 (hg c)) (fun op x y _ _ => Nat.lt_succ_iff.1 (alls_lt op x y)) u)
  induction t with
  | lf c => exact h c (by simp [Tm.code]) (hal c (by simp [Tm.code])) hok
  | nt c u ih =>
    have h1 := ih hok.2 (fun d hd => hal d (by simp [Tm.code, hd])) (fun d hd => h d (by simp [Tm.code, hd]))
    show hs (alls c.1 _ _) (jn c.1 _ _) = true
    rw [sz1 hok.1]
    exact not_in _ (hev8 u) _ (Nat.lt_succ_of_le (hev u)) h1
  | jn c a b iha ihb =>
    have h1 := iha hok.2.1 (fun d hd => hal d (by simp [Tm.code, hd])) (fun d hd => h d (by simp [Tm.code, hd]))
    have h2 := ihb hok.2.2 (fun d hd => hal d (by simp [Tm.code, hd])) (fun d hd => h d (by simp [Tm.code, hd]))
    have h3 := join_in _ (hev8 a) _ (hev8 b) _ (Nat.lt_succ_of_le (hev a)) _ (Nat.lt_succ_of_le (hev b)) h1 h2
    show hs (alls c.1 _ _) (jn c.1 _ _) = true
    rcases sz2 hok.1 with e | e
    · rw [e]; exact h3.1
    · rw [e]; exact h3.2
/-- the column of rows -/
def colm (rows : List (List Cel)) (c : Nat) : List Cel := rows.map fun r => r.getD c O
/-- what is known of the first columns, and their filters -/
def knS (rows : List (List Cel)) (n : Nat) : List Sta := (List.range n).map fun c => rawS (colm rows c)
def knF (rows : List (List Cel)) (n : Nat) : List Bloom.F := (List.range n).map fun c => Bloom.of Bloom.none ((colm rows c).map toC)
theorem knS_len (rows : List (List Cel)) (n : Nat) : (knS rows n).length = n := by simp [knS]
theorem knF_len (rows : List (List Cel)) (n : Nat) : (knF rows n).length = n := by simp [knF]
theorem knS_succ (rows : List (List Cel)) (n : Nat) : knS rows (n + 1) = knS rows n ++ [rawS (colm rows n)] := by simp [knS, List.range_succ]
theorem knF_succ (rows : List (List Cel)) (n : Nat) : knF rows (n + 1) = knF rows n ++ [Bloom.of Bloom.none ((colm rows n).map toC)] := by simp [knF, List.range_succ]
theorem colm_len (rows : List (List Cel)) (c : Nat) : (colm rows c).length = rows.length := by simp [colm]
theorem colm_take (rows : List (List Cel)) (c k : Nat) (h : k < rows.length) : (colm rows c).take (k + 1) = (colm rows c).take k ++ [rows[k].getD c O] := by
  have hk : k < (colm rows c).length := by rw [colm_len]; exact h
  rw [List.take_succ_eq_append_getElem hk]
  simp [colm]
theorem bad_zero {kind : Int} {l : List Cel} (h : bad kind l = 0) : ∀ c ∈ l, alone kind c = 0 := by
  induction l with
  | nil => intro c hc; simp at hc
  | cons d r ih =>
    simp only [bad] at h
    by_cases ha : alone kind d = 0
    · rw [if_pos ha] at h
      intro c hc
      rcases List.mem_cons.1 hc with rfl | hc
      · exact ha
      · exact ih h c hc
    · rw [if_neg ha] at h; exact absurd h ha
theorem cchk_zero {kind : Int} {l : List Cel} (h : cchk kind l = 0) : (kind = 1 ∨ kind = 2) ∧ l.length ≤ 64 ∧ ∀ c ∈ l, alone kind c = 0 := by
  unfold cchk at h
  by_cases h1 : kind ≠ 1 ∧ kind ≠ 2
  · rw [if_pos h1] at h; omega
  · rw [if_neg h1] at h
    by_cases h2 : 64 < l.length
    · rw [if_pos h2] at h; omega
    · rw [if_neg h2] at h
      exact ⟨by omega, by omega, bad_zero h⟩
theorem cchk_one {kind : Int} {c : Cel} (hk : kind = 1 ∨ kind = 2) (h : alone kind c = 0) : cchk kind [c] = 0 := by
  unfold cchk; rw [if_neg (by omega), if_neg (by simp)]; simp [bad, h]
theorem alone_O {kind : Int} : alone kind O = 0 := by
  unfold alone
  rw [if_neg (fun h => h.1 rfl), if_neg (by decide), if_neg (by decide)]
/-- what Raw counts of a column that is right is right -/
theorem sck_raw {kind : Int} {l : List Cel} (h : cchk kind l = 0) : sck kind (rawS l) = 0 := by
  obtain ⟨hk, h64, hal⟩ := cchk_zero h
  have hl : ∀ c ∈ l, Cel.ok c := fun c hc => alone_ok (hal c hc)
  obtain ⟨m1, m2, m3⟩ := mn_le l hl
  obtain ⟨M1, M2, M3⟩ := mx_ge l hl
  obtain ⟨h5, h6⟩ := mm l hl
  have hd := dense_len l
  have hmin : alone kind (mn l) = 0 := by
    by_cases h0 : (mn l).1 = 0
    · rw [(h5 h0).1]; exact alone_O
    · exact hal _ (m3 h0)
  have hmax : alone kind (mx l) = 0 := by
    by_cases h0 : (mx l).1 = 0
    · rw [M1 h0]; exact alone_O
    · exact hal _ (M3 h0)
  have hdz : (dense l).length = 0 ↔ (mn l).1 = 0 := by
    constructor
    · intro hz
      rcases Classical.em ((mn l).1 = 0) with h0 | h0
      · exact h0
      · have : mn l ∈ dense l := by unfold dense; rw [List.mem_filter]; exact ⟨m3 h0, by simpa using h0⟩
        rw [List.eq_nil_of_length_eq_zero hz] at this; simp at this
    · intro h0
      rcases Nat.eq_zero_or_pos (dense l).length with hz | hz
      · exact hz
      · obtain ⟨c, hc⟩ := List.exists_mem_of_length_pos hz
        have hc' := hc
        unfold dense at hc'
        rw [List.mem_filter] at hc'
        exact absurd h0 (m2 c hc'.1 (by simpa using hc'.2)).1
  rw [rawS_mm l hl]
  unfold sck
  rw [if_neg (by omega), if_neg (by simp only; omega), if_neg (by simp only; omega), if_neg (by simp only; omega)]
  simp only
  have e1 : ((l.length : Int) - ((dense l).length : Int) == (l.length : Int)) = decide ((dense l).length = 0) := by
    by_cases hz : (dense l).length = 0
    · rw [decide_eq_true hz, hz]; simp
    · rw [decide_eq_false hz, beq_eq_false_iff_ne]; omega
  rw [e1]
  by_cases h0 : (mn l).1 = 0
  · rw [decide_eq_true (hdz.2 h0), (h5 h0).1, (h5 h0).2, less_irrefl]
    rfl
  · have hz : ¬ (dense l).length = 0 := fun hz => h0 (hdz.1 hz)
    rw [decide_eq_false hz, (h6 h0).2]
    have q1 : ((mn l).1 == 0) = false := beq_eq_false_iff_ne.2 h0
    have q2 : ((mx l).1 == 0) = false := beq_eq_false_iff_ne.2 (h6 h0).1
    rw [q1, q2]; rfl
theorem schk_raw {ks : List Int} {rows : List (List Cel)} (h : ∀ c (hc : c < ks.length), cchk ks[c] (colm rows c) = 0) : schk ks (knS rows ks.length) = 0 := by
  have : ∀ i, i ≤ ks.length → schk (ks.drop (ks.length - i)) ((knS rows ks.length).drop (ks.length - i)) = 0 := by
    intro i
    induction i with
    | zero => intro _; rw [Nat.sub_zero, List.drop_of_length_le (Nat.le_refl _)]; simp [schk]
    | succ i ih =>
      intro hi
      have h1 : ks.length - (i + 1) < ks.length := by omega
      have h2 : ks.length - (i + 1) < (knS rows ks.length).length := by rw [knS_len]; omega
      have hz : sck ks[ks.length - (i + 1)] (knS rows ks.length)[ks.length - (i + 1)] = 0 := by
        have e : (knS rows ks.length)[ks.length - (i + 1)] = rawS (colm rows (ks.length - (i + 1))) := by simp [knS]
        rw [e]; exact sck_raw (h _ h1)
      rw [schk_next h1 h2 hz, show ks.length - (i + 1) + 1 = ks.length - i by omega]
      exact ih (by omega)
  have h1 := this ks.length (Nat.le_refl _)
  rw [Nat.sub_self, List.drop_zero, List.drop_zero] at h1
  exact h1
theorem rchk_raw {ks : List Int} {row : List Cel} (hl : row.length = ks.length) (h : ∀ c (hc : c < ks.length), (ks[c] = 1 ∨ ks[c] = 2) ∧ alone ks[c] (row.getD c O) = 0) : rchk ks row = 0 := by
  have : ∀ i, i ≤ ks.length → rchk (ks.drop (ks.length - i)) (row.drop (ks.length - i)) = 0 := by
    intro i
    induction i with
    | zero => intro _; rw [Nat.sub_zero, List.drop_of_length_le (Nat.le_refl _)]; simp [rchk]
    | succ i ih =>
      intro hi
      have h1 : ks.length - (i + 1) < ks.length := by omega
      have h2 : ks.length - (i + 1) < row.length := by omega
      obtain ⟨k1, k2⟩ := h _ h1
      rw [List.getD_eq_getElem?_getD, List.getElem?_eq_getElem h2] at k2
      rw [rchk_next h1 h2 (cchk_one k1 k2), show ks.length - (i + 1) + 1 = ks.length - i by omega]
      exact ih (by omega)
  have h1 := this ks.length (Nat.le_refl _)
  rw [Nat.sub_self, List.drop_zero, List.drop_zero] at h1
  exact h1
/-- the law: of rows that are right -/
theorem tree_leaf (t : Tm) (h : t.ok) : ∃ c ∈ t.code, sz c.1 = 0 := by
  induction t with
  | lf c => exact ⟨c, by simp [Tm.code], h⟩
  | nt c u ih => obtain ⟨d, hd, h1⟩ := ih h.2; exact ⟨d, by simp [Tm.code, hd], h1⟩
  | jn c a b iha _ => obtain ⟨d, hd, h1⟩ := iha h.2.1; exact ⟨d, by simp [Tm.code, hd], h1⟩
theorem chk_pos {ks : List Int} {p : List Cnd} (h : chk ks p = 0) : 0 < ks.length := by
  have hal := chk_al h
  obtain ⟨t, ht, rfl, _⟩ := right_tree h
  obtain ⟨c, hc, h0⟩ := tree_leaf t ht
  obtain ⟨h1, h2, _⟩ := leaf_ok (hal c hc) h0
  omega
theorem prn_or (ks : List Int) (p : List Cnd) (S : List Sta) (Fs : List Bloom.F) : (prn ks p S Fs).2 = 0 ∨ (prn ks p S Fs).1 = 0 := by
  unfold prn
  (repeat' split) <;> first | exact .inr rfl | exact .inl rfl
theorem prn_le (ks : List Int) (p : List Cnd) (S : List Sta) (Fs : List Bloom.F) : (prn ks p S Fs).2 ≤ 7 := by
  unfold prn
  have h1 := chk_le ks p
  have h2 := schk_le ks S
  (repeat' split) <;> simp only <;> omega
theorem ask_le (ks : List Int) (p : List Cnd) (row : List Cel) : (ask ks p row).2 ≤ 7 := by
  unfold ask
  have h1 := chk_le ks p
  have h2 := rchk_le ks row
  (repeat' split) <;> simp only <;> omega
theorem sound {ks : List Int} {p : List Cnd} {rows : List (List Cel)} (hlen0 : 0 < ks.length → ∀ r ∈ rows, r.length = ks.length) (hc : ∀ c (hc : c < ks.length), cchk ks[c] (colm rows c) = 0) (row : List Cel) (hr : row ∈ rows) :
    (chk ks p ≠ 0 ∧ ask ks p row = (0, chk ks p) ∧ prn ks p (knS rows ks.length) (knF rows ks.length) = (0, chk ks p)) ∨
    ((ask ks p row).2 = 0 ∧ (prn ks p (knS rows ks.length) (knF rows ks.length)).2 = 0 ∧ (ask ks p row).1 ≤ 2 ∧ (prn ks p (knS rows ks.length) (knF rows ks.length)).1 < 8 ∧ hs (prn ks p (knS rows ks.length) (knF rows ks.length)).1 (ask ks p row).1 = true) := by
  by_cases hp : chk ks p = 0
  · right
    have hrow := hlen0 (chk_pos hp) row hr
    have hin : ∀ c, c < ks.length → row.getD c O ∈ colm rows c := fun c _ => List.mem_map.2 ⟨row, hr, rfl⟩
    have hk : ∀ c (hc' : c < ks.length), (ks[c] = 1 ∨ ks[c] = 2) ∧ alone ks[c] (row.getD c O) = 0 := fun c hc' => by
      obtain ⟨h1, _, h3⟩ := cchk_zero (hc c hc')
      exact ⟨h1, h3 _ (hin c hc')⟩
    rw [ask_ok hp hrow (rchk_raw hrow hk), prn_ok hp (knS_len _ _) (knF_len _ _) (schk_raw hc)]
    have hal := chk_al hp
    obtain ⟨t, ht, rfl, _⟩ := right_tree hp
    rw [val_code _ _ t ht, val_code _ _ t ht]
    refine ⟨rfl, rfl, ev2 row t, ev8 _ _ t, ?_⟩
    refine tree_in (ks := ks) (f := askf row) (g := setf (knS rows ks.length) (knF rows ks.length)) (askf_le row) (fun c => kn_lt _ _ _) t ht hal fun c hcm ha hs0 => ?_
    obtain ⟨h0, h1, h2, h3, _⟩ := leaf_ok ha hs0
    obtain ⟨op, col, d⟩ := c
    simp only at h0 h1 h2 h3
    obtain ⟨j, rfl⟩ : ∃ j : Nat, col = (j : Int) := ⟨col.toNat, by omega⟩
    have hj : j < ks.length := by omega
    rw [setf_at (by rw [knS_len]; exact hj) (by rw [knF_len]; exact hj)]
    have e1 : (knS rows ks.length)[j]'(by rw [knS_len]; exact hj) = rawS (colm rows j) := by simp [knS]
    have e2 : (knF rows ks.length)[j]'(by rw [knF_len]; exact hj) = Bloom.of Bloom.none ((colm rows j).map toC) := by simp [knF]
    rw [e1, e2]
    show hs _ (askd _ (row.getD ((j : Int)).toNat O)) = true
    rw [Int.toNat_natCast]
    refine leaf_in (op, (j : Int), d) (colm rows j) (fun x hx => alone_ok ((cchk_zero (hc j hj)).2.2 x hx)) _ (hin j hj) ⟨h2, h3⟩ _ fun y hy => ?_
    obtain ⟨u, v, huv⟩ := List.append_of_mem (List.mem_map.2 ⟨y, hy, rfl⟩ : toC y ∈ (colm rows j).map toC)
    rw [huv]
    have := Bloom.may_in Bloom.none u v (toC y)
    simpa using this
  · exact .inl ⟨hp, ask_bad hp, prn_bad hp⟩
end Hy.Cnd
