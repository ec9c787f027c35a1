/- Conditions: of more rows no less may be: plain laws. No program in sight. -/
import Derived.Test.YtpheegfanljeeaaQcc
namespace Hy.Cnd
open Cel Go
/-- one set in another one -/
def sub (X Y : Nat) : Prop := ∀ t, t < 3 → hs X t = true → hs Y t = true
def prs : List (Nat × Nat) := [(0, 0), (0, 1), (0, 2), (1, 0), (1, 1), (1, 2), (2, 0), (2, 1), (2, 2)]
theorem any5 : ∀ X : Nat, X < 8 → ∀ Y : Nat, Y < 8 → ∀ t : Nat, t < 3 → hs (alls 5 X Y) t = prs.any (fun q => hs X q.1 && hs Y q.2 && (jn 5 q.1 q.2 == t)) := by decide +kernel
theorem any6 : ∀ X : Nat, X < 8 → ∀ Y : Nat, Y < 8 → ∀ t : Nat, t < 3 → hs (alls 6 X Y) t = prs.any (fun q => hs X q.1 && hs Y q.2 && (jn 6 q.1 q.2 == t)) := by decide +kernel
theorem any7 : ∀ X : Nat, X < 8 → ∀ t : Nat, t < 3 → hs (alls 7 X X) t = prs.any (fun q => hs X q.1 && hs X q.2 && (jn 7 q.1 q.2 == t)) := by decide +kernel
theorem prs_lt : ∀ q ∈ prs, q.1 < 3 ∧ q.2 < 3 := by decide
theorem any_sub {X Y X' Y' : Nat} (h1 : sub X X') (h2 : sub Y Y') (g : Nat → Nat → Bool) (h : prs.any (fun q => hs X q.1 && hs Y q.2 && g q.1 q.2) = true) : prs.any (fun q => hs X' q.1 && hs Y' q.2 && g q.1 q.2) = true := by
  rw [List.any_eq_true] at h ⊢
  obtain ⟨q, hq, h3⟩ := h
  simp only [Bool.and_eq_true] at h3 ⊢
  exact ⟨q, hq, ⟨h1 _ (prs_lt q hq).1 h3.1.1, h2 _ (prs_lt q hq).2 h3.1.2⟩, h3.2⟩
theorem sub_alls {op : Int} (ho : op = 5 ∨ op = 6) {X Y X' Y' : Nat} (hX : X < 8) (hY : Y < 8) (hX' : X' < 8) (hY' : Y' < 8) (h1 : sub X X') (h2 : sub Y Y') : sub (alls op X Y) (alls op X' Y') := fun t ht h => by
  rcases ho with rfl | rfl
  · rw [any5 X hX Y hY t ht] at h
    rw [any5 X' hX' Y' hY' t ht]
    exact any_sub h1 h2 (fun a b => jn 5 a b == t) h
  · rw [any6 X hX Y hY t ht] at h
    rw [any6 X' hX' Y' hY' t ht]
    exact any_sub h1 h2 (fun a b => jn 6 a b == t) h
theorem sub_not {X X' : Nat} (hX : X < 8) (hX' : X' < 8) (h1 : sub X X') : sub (alls 7 X X) (alls 7 X' X') := fun t ht h => by
  rw [any7 X hX t ht] at h
  rw [any7 X' hX' t ht]
  exact any_sub h1 h1 (fun a b => jn 7 a b == t) h
theorem hs_ms (n u y : Bool) : hs (ms n u y) 0 = n ∧ hs (ms n u y) 1 = u ∧ hs (ms n u y) 2 = y := by cases n <;> cases u <;> cases y <;> decide +kernel
theorem sub_ms {n u y n' u' y' : Bool} (h0 : n = true → n' = true) (h1 : u = true → u' = true) (h2 : y = true → y' = true) : sub (ms n u y) (ms n' u' y') := fun t ht h => by
  obtain ⟨a0, a1, a2⟩ := hs_ms n u y
  obtain ⟨b0, b1, b2⟩ := hs_ms n' u' y'
  rcases (by omega : t = 0 ∨ t = 1 ∨ t = 2) with rfl | rfl | rfl
  · rw [a0] at h; rw [b0]; exact h0 h
  · rw [a1] at h; rw [b1]; exact h1 h
  · rw [a2] at h; rw [b2]; exact h2 h
theorem sub_andNot : ∀ x : Nat, x < 8 → ∀ y : Nat, y < 8 → ((!hs x 0 || hs y 0) && (!hs x 1 || hs y 1) && (!hs x 2 || hs y 2)) = true → (bits .andNot .i64 (x : Int) (y : Int) == 0) = true := by decide +kernel
theorem sub_bits {x y : Nat} (hx : x < 8) (hy : y < 8) (h : sub x y) : (bits .andNot .i64 (x : Int) (y : Int) == 0) = true := by
  refine sub_andNot x hx y hy ?_
  have h0 := h 0 (by decide)
  have h1 := h 1 (by decide)
  have h2 := h 2 (by decide)
  revert h0 h1 h2
  cases hs x 0 <;> cases hs x 1 <;> cases hs x 2 <;> cases hs y 0 <;> cases hs y 1 <;> cases hs y 2 <;> simp
/-- what is known of more cells holds no less -/
theorem leaf_mono (c : Cnd) (l m : List Cel) (hl : ∀ x ∈ l ++ m, Cel.ok x) (hop : 1 ≤ c.1 ∧ c.1 ≤ 4) (f f' : Bloom.F) (hf : ∀ y ∈ l, Bloom.may f (toC y) = true) (hff : ∀ y, Bloom.may f y = true → Bloom.may f' y = true) : sub (kn c (rawS l) f) (kn c (rawS (l ++ m)) f') := by
  obtain ⟨op, col, d⟩ := c
  have hl1 : ∀ x ∈ l, Cel.ok x := fun x hx => hl x (List.mem_append.2 (.inl hx))
  have hm := rawS_mm l hl1
  have hm' := rawS_mm (l ++ m) hl
  obtain ⟨m1, m2, m3⟩ := mn_le l hl1
  obtain ⟨M1, M2, M3⟩ := mx_ge l hl1
  obtain ⟨m1', m2', m3'⟩ := mn_le (l ++ m) hl
  obtain ⟨M1', M2', M3'⟩ := mx_ge (l ++ m) hl
  obtain ⟨h5, h6⟩ := mm l hl1
  simp only at hop
  have hd : (dense l).length ≤ l.length := dense_len l
  have hd2 : (dense m).length ≤ m.length := dense_len m
  have hda : dense (l ++ m) = dense l ++ dense m := by unfold dense; exact List.filter_append ..
  unfold kn
  rw [hm, hm']
  simp only
  rw [hda, List.length_append, List.length_append]
  have hsome : decide ((l.length : Int) - ((dense l).length : Int) < (l.length : Int)) = true → decide (((l.length + m.length : Nat) : Int) - (((dense l).length + (dense m).length : Nat) : Int) < ((l.length + m.length : Nat) : Int)) = true := fun h => by
    simp only [decide_eq_true_eq] at h ⊢; omega
  have hnone : decide (0 < (l.length : Int) - ((dense l).length : Int)) = true → decide (0 < ((l.length + m.length : Nat) : Int) - (((dense l).length + (dense m).length : Nat) : Int)) = true := fun h => by
    simp only [decide_eq_true_eq] at h ⊢; omega
  by_cases h4 : op = 4
  · unfold knB
    rw [if_pos h4, if_pos h4]
    exact sub_ms hsome (fun h => by cases h) hnone
  by_cases hs1 : decide ((l.length : Int) - ((dense l).length : Int) < (l.length : Int)) = true
  · have hs2 := hsome hs1
    rw [hs1, hs2]
    have hpos : 0 < (dense l).length := by simp only [decide_eq_true_eq] at hs1; omega
    obtain ⟨x, hx⟩ := List.exists_mem_of_length_pos hpos
    have hx' := hx
    unfold dense at hx'
    rw [List.mem_filter] at hx'
    have hx0 : x.1 ≠ 0 := by simpa using hx'.2
    have hmn := m2 x hx'.1 hx0
    have hmx := M2 x hx'.1 hx0
    have hmi : mn l ∈ l := m3 hmn.1
    have hmxi : mx l ∈ l := M3 hmx.1
    have hle := (h6 hmn.1).2
    have a1 := m2' (mn l) (List.mem_append.2 (.inl hmi)) hmn.1
    have a2 := M2' (mx l) (List.mem_append.2 (.inl hmxi)) hmx.1
    have a3 := M2' (mn l) (List.mem_append.2 (.inl hmi)) hmn.1
    have a4 := m2' (mx l) (List.mem_append.2 (.inl hmxi)) hmx.1
    have hmay : Bloom.may f (toC (mn l)) = true := hf _ hmi
    generalize mn l = a at *
    generalize mx l = b at *
    generalize mn (l ++ m) = a' at *
    generalize mx (l ++ m) = b' at *
    have e1 : less a a' = false := a1.2
    have e2 : less b' b = false := a2.2
    have e3 : less b' a = false := a3.2
    have e4 : less b a' = false := a4.2
    clear a1 a2 a3 a4 hmn hmx m1 m2 m3 M1 M2 M3 m1' m2' m3' M1' M2' M3' h5 h6 hm hm'
    unfold knB
    rw [if_neg h4, if_neg (show ¬ (true = false) by decide), if_neg h4, if_neg (show ¬ (true = false) by decide)]
    by_cases h1 : op = 1
    · rw [if_pos h1, if_pos h1]
      have hy : ∀ y, Bloom.may f' y = false → Bloom.may f y = false := fun y h => by
        cases hq : Bloom.may f y
        · rfl
        · rw [hff y hq] at h; cases h
      by_cases hex' : (less d a' || less b' d || !Bloom.may f' ⟨d.1, d.2.1, d.2.2⟩) = true
      · have hex : (less d a || less b d || !Bloom.may f ⟨d.1, d.2.1, d.2.2⟩) = true := by
          simp only [Bool.or_eq_true, Bool.not_eq_true'] at hex' ⊢
          rcases hex' with (h | h) | h
          · left; left
            cases hq : less d a
            · have := le_trans' (a := a') (b := a) (c := d) e1 hq
              rw [h] at this; cases this
            · rfl
          · left; right
            cases hq : less b d
            · have := le_trans' (a := d) (b := b) (c := b') hq e2
              rw [h] at this; cases this
            · rfl
          · right; exact hy _ h
        rw [if_pos hex, if_pos hex']
        exact sub_ms (fun h => h) hnone (fun h => h)
      · rw [if_neg hex']
        by_cases heq' : decide (a' = b') = true
        · have hab : a' = b' := of_decide_eq_true heq'
          subst hab
          have ea : a = a' := eq_of_not e1 e3
          have eb : b = a' := eq_of_not e4 e2
          subst ea
          subst eb
          simp only [Bool.or_eq_true, not_or, Bool.not_eq_true, Bool.not_eq_true'] at hex'
          have hdd : d = b := eq_of_not hex'.1.1 hex'.1.2
          subst hdd
          have : ¬ (less d d || less d d || !Bloom.may f ⟨d.1, d.2.1, d.2.2⟩) = true := by
            rw [less_irrefl, show Bloom.may f ⟨d.1, d.2.1, d.2.2⟩ = true from hmay]; decide
          rw [if_neg this, if_pos heq', if_pos heq']
          exact sub_ms (fun h => h) hnone (fun h => h)
        · rw [if_neg heq']
          split
          · exact sub_ms (fun h => h) hnone (fun _ => rfl)
          · split
            · exact sub_ms (fun _ => rfl) hnone (fun h => h)
            · exact sub_ms (fun h => h) hnone (fun h => h)
    · rw [if_neg h1, if_neg h1]
      by_cases h2 : op = 2
      · rw [if_pos h2, if_pos h2]
        refine sub_ms (fun h => ?_) hnone (fun h => ?_)
        · simp only [Bool.not_eq_true'] at h ⊢
          exact le_trans' (a := d) (b := b) (c := b') h e2
        · simp only [Bool.or_eq_true] at h ⊢
          right
          have had : less a d = true := by
            rcases h with h | h
            · cases hq : less a d
              · have := le_trans' (a := d) (b := a) (c := b) hq hle
                rw [h] at this; cases this
              · rfl
            · exact h
          cases hq : less a' d
          · have := le_trans' (a := d) (b := a') (c := a) hq e1
            rw [had] at this; cases this
          · rfl
      · rw [if_neg h2, if_neg h2]
        refine sub_ms (fun h => ?_) hnone (fun h => ?_)
        · simp only [Bool.not_eq_true'] at h ⊢
          exact le_trans' (a := a') (b := a) (c := d) e1 h
        · simp only [Bool.or_eq_true] at h ⊢
          right
          have hdb : less d b = true := by
            rcases h with h | h
            · cases hq : less d b
              · have := le_trans' (a := a) (b := b) (c := d) hle hq
                rw [h] at this; cases this
              · rfl
            · exact h
          cases hq : less d b'
          · have := le_trans' (a := b) (b := b') (c := d) e2 hq
            rw [hdb] at this; cases this
          · rfl
  · have hs3 : decide ((l.length : Int) - ((dense l).length : Int) < (l.length : Int)) = false := by simpa using hs1
    rw [hs3]
    unfold knB
    rw [if_neg h4, if_pos rfl, if_neg h4]
    split
    · exact sub_ms (fun h => h) hnone (fun h => h)
    · (repeat' split) <;> exact sub_ms (fun h => by cases h) hnone (fun h => by cases h)
theorem tree_mono {ks : List Int} {g g' : Cnd → Nat} (hg : ∀ c, g c < 8) (hg' : ∀ c, g' c < 8) (t : Tm) (hok : t.ok) (hal : ∀ c ∈ t.code, al ks c = 0) (h : ∀ c ∈ t.code, al ks c = 0 → sz c.1 = 0 → sub (g c) (g' c)) : sub (t.ev g alls) (t.ev g' alls) := by
  have hev8 : ∀ u : Tm, u.ev g alls < 8 := fun u => Nat.lt_succ_of_le (ev_le (B := 7) (fun c => Nat.lt_succ_iff.1 (hg c)) (fun op x y _ _ => Nat.lt_succ_iff.1 (alls_lt op x y)) u)
  have hev8' : ∀ u : Tm, u.ev g' alls < 8 := fun u => Nat.lt_succ_of_le (ev_le (B := 7) (fun c => Nat.lt_succ_iff.1 (hg' c)) (fun op x y _ _ => Nat.lt_succ_iff.1 (alls_lt op x y)) u)
  induction t with
  | lf c => exact h c (by simp [Tm.code]) (hal c (by simp [Tm.code])) hok
  | nt c u ih =>
    have h1 := ih hok.2 (fun d hd => hal d (by simp [Tm.code, hd])) (fun d hd => h d (by simp [Tm.code, hd]))
    show sub (alls c.1 _ _) (alls c.1 _ _)
    rw [sz1 hok.1]
    exact sub_not (hev8 u) (hev8' u) h1
  | jn c a b iha ihb =>
    have h1 := iha hok.2.1 (fun d hd => hal d (by simp [Tm.code, hd])) (fun d hd => h d (by simp [Tm.code, hd]))
    have h2 := ihb hok.2.2 (fun d hd => hal d (by simp [Tm.code, hd])) (fun d hd => h d (by simp [Tm.code, hd]))
    exact sub_alls (sz2 hok.1) (hev8 a) (hev8 b) (hev8' a) (hev8' b) h1 h2
theorem colm_app (a b : List (List Cel)) (c : Nat) : colm (a ++ b) c = colm a c ++ colm b c := by simp [colm]
/-- the law: of rows that are right, and of more of them -/
theorem more {ks : List Int} {p : List Cnd} {rows ext : List (List Cel)} (hc : ∀ c (hc : c < ks.length), cchk ks[c] (colm rows c) = 0) (hc2 : ∀ c (hc : c < ks.length), cchk ks[c] (colm (rows ++ ext) c) = 0) :
    (chk ks p ≠ 0 ∧ prn ks p (knS rows ks.length) (knF rows ks.length) = (0, chk ks p) ∧ prn ks p (knS (rows ++ ext) ks.length) (knF (rows ++ ext) ks.length) = (0, chk ks p)) ∨
    ((prn ks p (knS rows ks.length) (knF rows ks.length)).2 = 0 ∧ (prn ks p (knS (rows ++ ext) ks.length) (knF (rows ++ ext) ks.length)).2 = 0 ∧ (prn ks p (knS rows ks.length) (knF rows ks.length)).1 < 8 ∧ (prn ks p (knS (rows ++ ext) ks.length) (knF (rows ++ ext) ks.length)).1 < 8 ∧
      sub (prn ks p (knS rows ks.length) (knF rows ks.length)).1 (prn ks p (knS (rows ++ ext) ks.length) (knF (rows ++ ext) ks.length)).1) := by
  by_cases hp : chk ks p = 0
  · right
    rw [prn_ok hp (knS_len _ _) (knF_len _ _) (schk_raw hc), prn_ok hp (knS_len _ _) (knF_len _ _) (schk_raw hc2)]
    have hal := chk_al hp
    obtain ⟨t, ht, rfl, _⟩ := right_tree hp
    rw [val_code _ _ t ht, val_code _ _ t ht]
    refine ⟨rfl, rfl, ev8 _ _ t, ev8 _ _ t, ?_⟩
    refine tree_mono (ks := ks) (g := setf (knS rows ks.length) (knF rows ks.length)) (g' := setf (knS (rows ++ ext) ks.length) (knF (rows ++ ext) ks.length)) (fun c => kn_lt _ _ _) (fun c => kn_lt _ _ _) t ht hal fun c hcm ha hs0 => ?_
    obtain ⟨h0, h1, h2, h3, _⟩ := leaf_ok ha hs0
    obtain ⟨op, col, d⟩ := c
    simp only at h0 h1 h2 h3
    obtain ⟨j, rfl⟩ : ∃ j : Nat, col = (j : Int) := ⟨col.toNat, by omega⟩
    have hj : j < ks.length := by omega
    rw [setf_at (by rw [knS_len]; exact hj) (by rw [knF_len]; exact hj), setf_at (by rw [knS_len]; exact hj) (by rw [knF_len]; exact hj)]
    have e1 : ∀ r : List (List Cel), (knS r ks.length)[j]'(by rw [knS_len]; exact hj) = rawS (colm r j) := fun r => by simp [knS]
    have e2 : ∀ r : List (List Cel), (knF r ks.length)[j]'(by rw [knF_len]; exact hj) = Bloom.of Bloom.none ((colm r j).map toC) := fun r => by simp [knF]
    rw [e1, e2, e1, e2, colm_app]
    have hok := hc2 j hj
    rw [colm_app] at hok
    refine leaf_mono (op, (j : Int), d) (colm rows j) (colm ext j) (fun x hx => alone_ok ((cchk_zero hok).2.2 x hx)) ⟨h2, h3⟩ _ _ (fun y hy => ?_) (fun y hy => ?_)
    · obtain ⟨u, v, huv⟩ := List.append_of_mem (List.mem_map.2 ⟨y, hy, rfl⟩ : toC y ∈ (colm rows j).map toC)
      rw [huv]
      have := Bloom.may_in Bloom.none u v (toC y)
      simpa using this
    · rw [List.map_append, Bloom.of_app]
      exact Bloom.may_of _ _ _ hy
  · exact .inl ⟨hp, prn_bad hp, prn_bad hp⟩
end Hy.Cnd
