/- Conditions: plain words; parts, leaf, Check. -/
import Derived.Test.YtolhifnlahllnaaGreatDoorCeq
import Derived.Test.YtolhifnlahllnaaGreatDoorAlo
import Derived.Test.YtolhifnlahllnaaGreatDoorKnd
section
namespace Hy
/-- a node of a condition: its op, its column, its cell -/
abbrev Cnd := Int × Int × Cel
namespace Cnd
/-- how many nodes a node is of -/
def sz (op : Int) : Nat := if op = 5 ∨ op = 6 then 2 else if op = 7 then 1 else 0
def O : Cel := (0, 0, ByteArray.empty)
/-- what is wrong with a leaf -/
@[irreducible] def lf (ks : List Int) (c : Cnd) : Nat :=
  if c.2.1 < 0 ∨ (ks.length : Int) ≤ c.2.1 then 3 else
  if ks.getD c.2.1.toNat 0 ≠ 1 ∧ ks.getD c.2.1.toNat 0 ≠ 2 then 7 else
  if c.1 = 4 then (if c.2.2 = O then 0 else 1) else
  if Cel.alone (ks.getD c.2.1.toNat 0) c.2.2 ≠ 0 then Cel.alone (ks.getD c.2.1.toNat 0) c.2.2 else if c.2.2.1 = 0 then 7 else 0
/-- what is wrong with a node by itself -/
@[irreducible] def al (ks : List Int) (c : Cnd) : Nat :=
  if c.1 < 1 ∨ 7 < c.1 then 7 else if sz c.1 = 0 then lf ks c else if c.2.1 ≠ 0 ∨ c.2.2 ≠ O then 1 else 0
/-- what is wrong with nodes behind o that are open -/
def pk (ks : List Int) (o : Nat) : List Cnd → Nat
  | [] => if o = 1 then 0 else 1
  | c :: r => if al ks c ≠ 0 then al ks c else if o < sz c.1 then 1 else pk ks (o - sz c.1 + 1) r
@[irreducible] def chk (ks : List Int) (p : List Cnd) : Nat := if 16 < p.length then 2 else pk ks 0 p
theorem sz_le (op : Int) : sz op ≤ 2 := by unfold sz; (repeat' split) <;> omega
theorem lf_le (ks : List Int) (c : Cnd) : lf ks c ≤ 7 := by unfold lf; (repeat' split) <;> first | omega | exact Cel.alone_le _ _
theorem al_le (ks : List Int) (c : Cnd) : al ks c ≤ 7 := by unfold al; (repeat' split) <;> first | omega | exact lf_le _ _
theorem pk_le (ks : List Int) (o : Nat) (p : List Cnd) : pk ks o p ≤ 7 := by
  induction p generalizing o with
  | nil => simp only [pk]; split <;> omega
  | cons c r ih => simp only [pk]; (repeat' split) <;> first | omega | exact al_le _ _ | exact ih _
theorem chk_le (ks : List Int) (p : List Cnd) : chk ks p ≤ 7 := by unfold chk; split; omega; exact pk_le _ _ _
theorem pk_bad {ks : List Int} {o : Nat} {p : List Cnd} {k : Nat} (h : k < p.length) (ha : al ks p[k] ≠ 0) : pk ks o (p.drop k) = al ks p[k] := by
  rw [List.drop_eq_getElem_cons h]; simp [pk, ha]
theorem pk_few {ks : List Int} {o : Nat} {p : List Cnd} {k : Nat} (h : k < p.length) (ha : al ks p[k] = 0) (ho : o < sz p[k].1) : pk ks o (p.drop k) = 1 := by
  rw [List.drop_eq_getElem_cons h]; simp only [pk]; rw [if_neg (by omega), if_pos ho]
theorem pk_next {ks : List Int} {o : Nat} {p : List Cnd} {k : Nat} (h : k < p.length) (ha : al ks p[k] = 0) (ho : ¬ o < sz p[k].1) : pk ks o (p.drop k) = pk ks (o - sz p[k].1 + 1) (p.drop (k + 1)) := by
  rw [List.drop_eq_getElem_cons h]; simp only [pk]; rw [if_neg (by omega), if_neg ho]
/-- a condition as a tree -/
inductive Tm where
  | lf (c : Cnd)
  | nt (c : Cnd) (t : Tm)
  | jn (c : Cnd) (a b : Tm)
namespace Tm
def code : Tm → List Cnd
  | lf c => [c]
  | nt c t => code t ++ [c]
  | jn c a b => code a ++ (code b ++ [c])
def ok : Tm → Prop
  | lf c => sz c.1 = 0
  | nt c t => sz c.1 = 1 ∧ ok t
  | jn c a b => sz c.1 = 2 ∧ ok a ∧ ok b
def ev (f : Cnd → Nat) (j : Int → Nat → Nat → Nat) : Tm → Nat
  | lf c => f c
  | nt c t => j c.1 (ev f j t) (ev f j t)
  | jn c a b => j c.1 (ev f j a) (ev f j b)
theorem code_pos (t : Tm) : 0 < t.code.length := by cases t <;> simp [code] <;> omega
end Tm
/-- one node more, of a stack of values -/
def stp (f : Cnd → Nat) (j : Int → Nat → Nat → Nat) (S : List Nat) (c : Cnd) : List Nat :=
  if sz c.1 = 0 then S ++ [f c] else
  if sz c.1 = 1 then S.take (S.length - 1) ++ [j c.1 (S.getD (S.length - 1) 0) (S.getD (S.length - 1) 0)] else
  S.take (S.length - 2) ++ [j c.1 (S.getD (S.length - 2) 0) (S.getD (S.length - 1) 0)]
theorem stp_code (f : Cnd → Nat) (j : Int → Nat → Nat → Nat) (t : Tm) (h : t.ok) (S : List Nat) : t.code.foldl (stp f j) S = S ++ [t.ev f j] := by
  induction t generalizing S with
  | lf c => simp only [Tm.code, List.foldl, stp]; rw [if_pos (show sz c.1 = 0 from h)]; rfl
  | nt c t ih =>
    simp only [Tm.code, List.foldl_append, List.foldl_cons, List.foldl_nil]
    rw [ih h.2]
    have h1 := h.1
    simp only [stp]
    rw [if_neg (by omega), if_pos h1]
    have e : (S ++ [t.ev f j]).length - 1 = S.length := by simp
    rw [e, List.take_left]
    simp [Tm.ev]
  | jn c a b iha ihb =>
    simp only [Tm.code, List.foldl_append, List.foldl_cons, List.foldl_nil]
    rw [iha h.2.1, ihb h.2.2]
    have h1 := h.1
    simp only [stp]
    rw [if_neg (by omega), if_neg (by omega)]
    have e1 : (S ++ [a.ev f j] ++ [b.ev f j]).length - 1 = S.length + 1 := by simp
    have e2 : (S ++ [a.ev f j] ++ [b.ev f j]).length - 2 = S.length := by simp
    rw [e1, e2, List.append_assoc, List.take_left]
    simp [Tm.ev]
/-- what a condition that is right comes to -/
def val (f : Cnd → Nat) (j : Int → Nat → Nat → Nat) (p : List Cnd) : Nat := (p.foldl (stp f j) []).getD 0 0
theorem val_code (f : Cnd → Nat) (j : Int → Nat → Nat → Nat) (t : Tm) (h : t.ok) : val f j t.code = t.ev f j := by
  unfold val; rw [stp_code f j t h]; rfl
theorem split2 {α : Type} (L : List α) (h : 2 ≤ L.length) : ∃ (M : List α) (a b : α), L = M ++ [a, b] := by
  obtain ⟨K, b, rfl⟩ := List.eq_nil_or_concat L |>.resolve_left (by intro e; subst e; simp at h)
  obtain ⟨M, a, rfl⟩ := List.eq_nil_or_concat K |>.resolve_left (by intro e; subst e; simp at h)
  exact ⟨M, a, b, by simp⟩
theorem right_trees {ks : List Int} (p : List Cnd) (L : List Tm) (hL : ∀ t ∈ L, t.ok) (h : pk ks L.length p = 0) : ∃ t : Tm, t.ok ∧ L.flatMap Tm.code ++ p = t.code := by
  induction p generalizing L with
  | nil =>
    simp only [pk] at h
    have h1 : L.length = 1 := by
      by_cases e : L.length = 1
      · exact e
      · rw [if_neg e] at h; omega
    obtain ⟨t, rfl⟩ := List.length_eq_one_iff.1 h1
    exact ⟨t, hL t (by simp), by simp⟩
  | cons c r ih =>
    simp only [pk] at h
    by_cases ha : al ks c = 0
    · rw [if_neg (by omega)] at h
      by_cases ho : L.length < sz c.1
      · rw [if_pos ho] at h; omega
      · rw [if_neg ho] at h
        have h2 := sz_le c.1
        rcases (by omega : sz c.1 = 0 ∨ sz c.1 = 1 ∨ sz c.1 = 2) with e | e | e
        · obtain ⟨t, ht, hc⟩ := ih (L ++ [.lf c]) (fun t ht => by
            rcases List.mem_append.1 ht with h3 | h3
            · exact hL t h3
            · rw [List.mem_singleton.1 h3]; exact e) (by rw [List.length_append, List.length_singleton, ← h, e]; rfl)
          exact ⟨t, ht, by rw [← hc]; simp [Tm.code]⟩
        · obtain ⟨M, b, rfl⟩ := List.eq_nil_or_concat L |>.resolve_left (by intro e3; subst e3; simp at ho; omega)
          obtain ⟨t, ht, hc⟩ := ih (M ++ [.nt c b]) (fun t ht => by
            rcases List.mem_append.1 ht with h3 | h3
            · exact hL t (by simp [h3])
            · rw [List.mem_singleton.1 h3]; exact ⟨e, hL b (by simp)⟩) (by rw [← h, e]; simp)
          exact ⟨t, ht, by rw [← hc]; simp [Tm.code]⟩
        · obtain ⟨M, a, b, rfl⟩ := split2 L (by omega)
          obtain ⟨t, ht, hc⟩ := ih (M ++ [.jn c a b]) (fun t ht => by
            rcases List.mem_append.1 ht with h3 | h3
            · exact hL t (by simp [h3])
            · rw [List.mem_singleton.1 h3]; exact ⟨e, hL a (by simp), hL b (by simp)⟩) (by rw [← h, e]; simp)
          exact ⟨t, ht, by rw [← hc]; simp [Tm.code]⟩
    · rw [if_pos ha] at h; exact absurd h ha
theorem right_tree {ks : List Int} {p : List Cnd} (h : chk ks p = 0) : ∃ t : Tm, t.ok ∧ p = t.code ∧ p.length ≤ 16 := by
  unfold chk at h
  by_cases h1 : 16 < p.length
  · rw [if_pos h1] at h; omega
  · rw [if_neg h1] at h
    obtain ⟨t, ht, hc⟩ := right_trees p [] (fun t ht => by simp at ht) h
    exact ⟨t, ht, by simpa using hc, by omega⟩
theorem pk_al {ks : List Int} {o : Nat} {p : List Cnd} (h : pk ks o p = 0) : ∀ c ∈ p, al ks c = 0 := by
  induction p generalizing o with
  | nil => intro c hc; simp at hc
  | cons d r ih =>
    simp only [pk] at h
    by_cases ha : al ks d = 0
    · rw [if_neg (by omega)] at h
      by_cases ho : o < sz d.1
      · rw [if_pos ho] at h; omega
      · rw [if_neg ho] at h
        intro c hc
        rcases List.mem_cons.1 hc with rfl | hc
        · exact ha
        · exact ih h c hc
    · rw [if_pos ha] at h; exact absurd h ha
theorem chk_al {ks : List Int} {p : List Cnd} (h : chk ks p = 0) : ∀ c ∈ p, al ks c = 0 := by
  unfold chk at h
  by_cases h1 : 16 < p.length
  · rw [if_pos h1] at h; omega
  · rw [if_neg h1] at h; exact pk_al h
theorem stp_len (f : Cnd → Nat) (j : Int → Nat → Nat → Nat) (S : List Nat) (c : Cnd) : (stp f j S c).length = S.length - sz c.1 + 1 := by
  have h2 := sz_le c.1
  unfold stp
  rcases (by omega : sz c.1 = 0 ∨ sz c.1 = 1 ∨ sz c.1 = 2) with e | e | e
  · rw [if_pos e, e]; simp
  · rw [if_neg (by omega), if_pos e, e]; simp
  · rw [if_neg (by omega), if_neg (by omega), e]; simp
theorem pk_sz {ks : List Int} (f : Cnd → Nat) (j : Int → Nat → Nat → Nat) (p : List Cnd) (S : List Nat) (h : pk ks S.length p = 0) (k : Nat) (hk : k < p.length) : sz p[k].1 ≤ ((p.take k).foldl (stp f j) S).length := by
  induction p generalizing S k with
  | nil => simp at hk
  | cons d r ih =>
    simp only [pk] at h
    by_cases ha : al ks d = 0
    · rw [if_neg (by omega)] at h
      by_cases ho : S.length < sz d.1
      · rw [if_pos ho] at h; omega
      · rw [if_neg ho] at h
        cases k with
        | zero => simp only [List.getElem_cons_zero, List.take_zero, List.foldl_nil]; omega
        | succ k =>
          simp only [List.getElem_cons_succ, List.take_succ_cons, List.foldl_cons]
          exact ih _ (by rw [stp_len f j S d]; exact h) k (by simpa using hk)
    · rw [if_pos ha] at h; exact absurd h ha
theorem chk_sz {ks : List Int} {p : List Cnd} (h : chk ks p = 0) (f : Cnd → Nat) (j : Int → Nat → Nat → Nat) (k : Nat) (hk : k < p.length) : sz p[k].1 ≤ ((p.take k).foldl (stp f j) []).length := by
  unfold chk at h
  by_cases h1 : 16 < p.length
  · rw [if_pos h1] at h; omega
  · rw [if_neg h1] at h; exact pk_sz f j p [] h k hk
theorem take_stp (f : Cnd → Nat) (j : Int → Nat → Nat → Nat) (p : List Cnd) (S : List Nat) (k : Nat) (hk : k < p.length) : (p.take (k + 1)).foldl (stp f j) S = stp f j ((p.take k).foldl (stp f j) S) p[k] := by
  rw [List.take_succ_eq_append_getElem hk, List.foldl_append]; rfl
theorem stk_le (f : Cnd → Nat) (j : Int → Nat → Nat → Nat) (p : List Cnd) (k : Nat) : ((p.take k).foldl (stp f j) []).length ≤ k := by
  induction k with
  | zero => simp
  | succ k ih =>
    by_cases hk : k < p.length
    · rw [take_stp f j p [] k hk, stp_len]; omega
    · rw [List.take_of_length_le (by omega), ← List.take_of_length_le (show p.length ≤ k by omega)]; omega
theorem getD_le {B : Nat} {S : List Nat} (hS : ∀ s ∈ S, s ≤ B) (i : Nat) : S.getD i 0 ≤ B := by
  rw [List.getD_eq_getElem?_getD]
  cases h : S[i]? with
  | none => exact Nat.zero_le _
  | some x => exact hS x (List.mem_of_getElem? h)
theorem stk_bd {B : Nat} {f : Cnd → Nat} {j : Int → Nat → Nat → Nat} {p : List Cnd} (hf : ∀ c ∈ p, f c ≤ B) (hj : ∀ op x y, x ≤ B → y ≤ B → j op x y ≤ B) (k : Nat) : ∀ s ∈ (p.take k).foldl (stp f j) [], s ≤ B := by
  induction k with
  | zero => intro s hs; simp at hs
  | succ k ih =>
    by_cases hk : k < p.length
    · rw [take_stp f j p [] k hk]
      generalize (p.take k).foldl (stp f j) [] = S at *
      intro s hs
      unfold stp at hs
      have h0 : ∀ i, ∀ s ∈ S.take i, s ≤ B := fun i s h => ih s (List.mem_of_mem_take h)
      split at hs
      · rcases List.mem_append.1 hs with h | h
        · exact ih s h
        · rw [List.mem_singleton.1 h]; exact hf _ (List.getElem_mem hk)
      · split at hs
        · rcases List.mem_append.1 hs with h | h
          · exact h0 _ s h
          · rw [List.mem_singleton.1 h]; exact hj _ _ _ (getD_le ih _) (getD_le ih _)
        · rcases List.mem_append.1 hs with h | h
          · exact h0 _ s h
          · rw [List.mem_singleton.1 h]; exact hj _ _ _ (getD_le ih _) (getD_le ih _)
    · rw [List.take_of_length_le (by omega), ← List.take_of_length_le (show p.length ≤ k by omega)]; exact ih
theorem stk_all {ks : List Int} {p : List Cnd} (h : chk ks p = 0) (f : Cnd → Nat) (j : Int → Nat → Nat → Nat) : p.foldl (stp f j) [] = [val f j p] := by
  obtain ⟨t, ht, rfl, _⟩ := right_tree h
  rw [stp_code f j t ht, val_code f j t ht]; rfl
end Cnd
end Hy
end
section
namespace Hy
open Go
/-- a node's cells -/
def cnd5 (c : Cnd) : List Value := [.int .i64 c.1, .int .i64 c.2.1, .int .i64 c.2.2.1, .int .u64 (c.2.2.2.1 : Nat), .string c.2.2.2.2]
def cns (l : List Cnd) : List Value := l.flatMap cnd5
theorem cns_len (l : List Cnd) : (cns l).length = l.length * 5 := flat_length (f := cnd5) (m := 5) (fun _ => rfl) l
theorem cns_one (l : List Cnd) : ∀ u ∈ cns l, u.oneCell' = true := fun u hu => by
  obtain ⟨c, _, h⟩ := List.mem_flatMap.1 hu
  simp only [cnd5, List.mem_cons, List.not_mem_nil, or_false] at h
  rcases h with rfl | rfl | rfl | rfl | rfl <;> rfl
theorem cns_app (l m : List Cnd) : cns (l ++ m) = cns l ++ cns m := by simp [cns]
theorem Rd.cnds {w : World} {A : Option Addr} {l : List Cnd} (h : Rd w A (cns l)) (k : Nat) (hk : k < l.length) :
    ∃ b o, A = some ⟨b, o, none⟩ ∧ b < w.heap.size ∧ ∀ j (hj : j < l.length), w.cell? ⟨b, o + j * 5, none⟩ = some (.int .i64 l[j].1) ∧ w.cell? ⟨b, o + j * 5 + 1, none⟩ = some (.int .i64 l[j].2.1) ∧ w.cell? ⟨b, o + j * 5 + 2, none⟩ = some (.int .i64 l[j].2.2.1) ∧ w.cell? ⟨b, o + j * 5 + 3, none⟩ = some (.int .u64 (l[j].2.2.2.1 : Nat)) ∧ w.cell? ⟨b, o + j * 5 + 4, none⟩ = some (.string l[j].2.2.2.2) := by
  obtain ⟨b, o, e, hb, hc⟩ := h (by rw [cns_len]; omega)
  have H : ∀ j (hj : j < l.length) i (hi : i < 5) u, (cnd5 l[j])[i]? = some u → w.cell? ⟨b, o + (j * 5 + i), none⟩ = some u := fun j hj i hi u hu => hc _ _ ((flat_get (f := cnd5) (m := 5) (fun _ => rfl) l j hj i hi).trans hu)
  refine ⟨b, o, e, hb, fun j hj => ⟨?_, ?_, ?_, ?_, ?_⟩⟩
  · exact H j hj 0 (by decide) _ rfl
  · rw [Nat.add_assoc]; exact H j hj 1 (by decide) _ rfl
  · rw [Nat.add_assoc]; exact H j hj 2 (by decide) _ rfl
  · rw [Nat.add_assoc]; exact H j hj 3 (by decide) _ rfl
  · rw [Nat.add_assoc]; exact H j hj 4 (by decide) _ rfl
abbrev cndV (c : Cnd) : Value := .agg #[.int .i64 c.1, .int .i64 c.2.1, .int .i64 c.2.2.1, .int .u64 (c.2.2.2.1 : Nat), .string c.2.2.2.2]
/-- a list of ints as cells -/
def i64s (l : List Int) : List Value := l.map fun x => .int .i64 x
theorem i64s_len (l : List Int) : (i64s l).length = l.length := List.length_map _
theorem i64s_one (l : List Int) : ∀ u ∈ i64s l, u.oneCell' = true := fun u hu => by
  obtain ⟨c, _, rfl⟩ := List.mem_map.1 hu; rfl
theorem Rd.ints {w : World} {A : Option Addr} {l : List Int} (h : Rd w A (i64s l)) (k : Nat) (hk : k < l.length) :
    ∃ b o, A = some ⟨b, o, none⟩ ∧ b < w.heap.size ∧ ∀ j (hj : j < l.length), w.cell? ⟨b, o + j, none⟩ = some (.int .i64 l[j]) := by
  obtain ⟨b, o, e, hb, hc⟩ := h (by rw [i64s_len]; omega)
  exact ⟨b, o, e, hb, fun j hj => hc _ _ (by unfold i64s; rw [List.getElem?_map, List.getElem?_eq_getElem hj]; rfl)⟩
end Hy
namespace Go.Proofs.YtolhifnlahllnaaGreatDoor
open Go.RowKit Hy
theorem cel_dec (c : Cel) : (decide ((c.1, c.2.1, c.2.2) = ((0, 0, ByteArray.empty) : Cel))) = decide (c = Cnd.O) := rfl
theorem parts_any (op : Int) (w : World) : Calls Tryz.prog 77 #[.int .i64 op] w fun e w' => e = .returned (.int .i64 (Cnd.sz op : Nat)) ∧ w = w' := by
  rcases (by omega : op = 5 ∨ op = 6 ∨ op = 7 ∨ (op ≠ 5 ∧ op ≠ 6 ∧ op ≠ 7)) with rfl | rfl | rfl | ⟨h5, h6, h7⟩
  all_goals (try (go_enter Tryz.func77, Tryz.ntmps77; go_wp2; go_returns; exact ⟨rfl, rfl⟩))
  have hs : Cnd.sz op = 0 := by unfold Cnd.sz; rw [if_neg (by omega), if_neg h7]
  rw [hs]
  clear hs
  have e5 : (op == 5) = false := beq_eq_false_iff_ne.2 h5
  have e6 : (op == 6) = false := beq_eq_false_iff_ne.2 h6
  have e7 : (op == 7) = false := beq_eq_false_iff_ne.2 h7
  go_enter Tryz.func77, Tryz.ntmps77
  go_wp2
  go_returns
  exact ⟨rfl, rfl⟩
end Go.Proofs.YtolhifnlahllnaaGreatDoor
end
section
namespace Hy.Cnd
/-- a leaf of a column that is there -/
def lfk (kd op : Int) (c : Cel) : Nat :=
  if kd ≠ 1 ∧ kd ≠ 2 then 7 else if op = 4 then (if c = O then 0 else 1) else if Cel.alone kd c ≠ 0 then Cel.alone kd c else if c.1 = 0 then 7 else 0
theorem lf_in {ks : List Int} {op : Int} {c : Cel} (j : Nat) (hj : j < ks.length) : lf ks (op, (j : Int), c) = lfk ks[j] op c := by
  unfold lf lfk
  have hg : ks.getD ((j : Int)).toNat 0 = ks[j] := by simp [hj]
  simp only [hg]
  rw [if_neg (by omega)]
theorem lf_out {ks : List Int} {op col : Int} {c : Cel} (h : col < 0 ∨ (ks.length : Int) ≤ col) : lf ks (op, col, c) = 3 := by
  unfold lf; simp only; rw [if_pos h]
/-- the ways of a leaf -/
theorem lfk_ways (kd op : Int) (c : Cel) :
    (¬ (kd = 1 ∨ kd = 2) ∧ lfk kd op c = 7) ∨
    ((kd = 1 ∨ kd = 2) ∧ op = 4 ∧ c = O ∧ lfk kd op c = 0) ∨ ((kd = 1 ∨ kd = 2) ∧ op = 4 ∧ c ≠ O ∧ lfk kd op c = 1) ∨
    ((kd = 1 ∨ kd = 2) ∧ op ≠ 4 ∧ Cel.alone kd c ≠ 0 ∧ lfk kd op c = Cel.alone kd c) ∨
    ((kd = 1 ∨ kd = 2) ∧ op ≠ 4 ∧ Cel.alone kd c = 0 ∧ c.1 = 0 ∧ lfk kd op c = 7) ∨ ((kd = 1 ∨ kd = 2) ∧ op ≠ 4 ∧ Cel.alone kd c = 0 ∧ c.1 ≠ 0 ∧ lfk kd op c = 0) := by
  unfold lfk
  by_cases hk : kd = 1 ∨ kd = 2
  · rw [if_neg (by omega)]
    by_cases h4 : op = 4
    · rw [if_pos h4]
      by_cases hO : c = O
      · exact .inr (.inl ⟨hk, h4, hO, if_pos hO⟩)
      · exact .inr (.inr (.inl ⟨hk, h4, hO, if_neg hO⟩))
    · rw [if_neg h4]
      by_cases hE : Cel.alone kd c = 0
      · rw [if_neg (by omega)]
        by_cases h0 : c.1 = 0
        · exact .inr (.inr (.inr (.inr (.inl ⟨hk, h4, hE, h0, if_pos h0⟩))))
        · exact .inr (.inr (.inr (.inr (.inr ⟨hk, h4, hE, h0, if_neg h0⟩))))
      · exact .inr (.inr (.inr (.inl ⟨hk, h4, hE, if_pos hE⟩)))
  · rw [if_pos (by omega)]; exact .inl ⟨hk, rfl⟩
end Hy.Cnd
namespace Go.Proofs.YtolhifnlahllnaaGreatDoor
open Go.RowKit Hy
set_option maxHeartbeats 1600000 in
theorem leaf_any (ks : List Int) (c : Cnd) (K : Option Addr) (m kcap : Nat) (w : World) (hm : ks.length = m) (hr : Rd w K (i64s ks)) (hml : m ≤ 140737488355328) :
    Calls Tryz.prog 78 #[cndV c, .slice K m kcap] w fun e w' => e = .returned (.int .i64 (Cnd.lf ks c : Nat)) ∧ Ext w w' := by
  obtain ⟨op, col, k, n, s⟩ := c
  obtain ⟨R, hR⟩ : ∃ R, R = Cnd.lf ks (op, col, k, n, s) := ⟨_, rfl⟩
  rw [← hR]
  have hmI : (m : Int) ≤ 140737488355328 := by omega
  have XN := hid (Ext.new (ext_refl w) (.cells #[.int .i64 op, .int .i64 col, .int .i64 k, .int .u64 (n : Int), .string s] 58))
  by_cases h0 : col < 0
  · have HE := hid (show R = 3 by rw [hR]; exact Cnd.lf_out (.inl h0))
    clear hR hr hm hml
    go_enter Tryz.func78, Tryz.ntmps78
    go_wp2
    go_returns
    exact ⟨by rw [HE.out]; rfl, XN.out⟩
  by_cases h1 : (m : Int) ≤ col
  · have HE := hid (show R = 3 by rw [hR]; exact Cnd.lf_out (.inr (by rw [hm]; exact h1)))
    clear hR hr hm hml
    go_enter Tryz.func78, Tryz.ntmps78
    go_wp2
    go_returns
    exact ⟨by rw [HE.out]; rfl, XN.out⟩
  obtain ⟨j, rfl⟩ : ∃ j : Nat, col = (j : Int) := ⟨col.toNat, by omega⟩
  have hj : j < ks.length := by omega
  have hjm : (j : Int) < (m : Int) := by omega
  obtain ⟨b, o, rfl, lb, cb⟩ := hr.ints j hj
  have d0 := cb j hj
  rw [Cnd.lf_in j hj] at hR
  clear cb hr hm hml h0 h1
  generalize ks[j] = kd at *
  clear hj
  have HK := hid (kind_any kd)
  have hq : ∀ w, (binOp .neq 42 (.agg #[.int .i64 k, .int .u64 (n : Int), .string s]) (.agg #[.int .i64 0, .int .u64 0, .string ⟨#[]⟩])).run Tryz.prog w = .ok (.bool (!decide (((k, n, s) : Cel) = Cnd.O))) w := fun w => cel_neq k 0 n 0 s ⟨#[]⟩ w
  have HAL := hid (alone_any kd (k, n, s))
  have hw := Cnd.lfk_ways kd op (k, n, s)
  rw [← hR] at hw
  clear hR
  obtain ⟨E, hE⟩ : ∃ E, E = Cel.alone kd (k, n, s) := ⟨_, rfl⟩
  have hE7 := Cel.alone_le kd (k, n, s)
  rw [← hE] at HAL hw hE7
  clear hE
  rcases hw with ⟨g1, HE⟩ | ⟨g1, rfl, g3, HE⟩ | ⟨g1, rfl, g3, HE⟩ | ⟨g1, g2, g3, HE⟩ | ⟨g1, g2, rfl, g4, HE⟩ | ⟨g1, g2, rfl, g4, HE⟩
  · rw [decide_eq_false g1] at HK
    replace HE := hid HE
    clear g1 hE7 hq
    go_enter Tryz.func78, Tryz.ntmps78
    go_wp2_with (go_at_call 88; refine (HK.out _).mono ?_; rintro e w1 ⟨rfl, rfl⟩)
    go_returns
    exact ⟨by rw [HE.out]; rfl, XN.out⟩
  · rw [decide_eq_true g1] at HK
    rw [decide_eq_true g3] at hq
    replace HE := hid HE
    clear g1 hE7 g3
    go_enter Tryz.func78, Tryz.ntmps78
    go_wp2_with (go_at_call 88; refine (HK.out _).mono ?_; rintro e w1 ⟨rfl, rfl⟩)
    go_returns
    exact ⟨by rw [HE.out]; rfl, XN.out⟩
  · rw [decide_eq_true g1] at HK
    rw [decide_eq_false g3] at hq
    replace HE := hid HE
    clear g1 hE7 g3
    go_enter Tryz.func78, Tryz.ntmps78
    go_wp2_with (go_at_call 88; refine (HK.out _).mono ?_; rintro e w1 ⟨rfl, rfl⟩)
    go_returns
    exact ⟨by rw [HE.out]; rfl, XN.out⟩
  · rw [decide_eq_true g1] at HK
    have e1 : ((E : Int) != 0) = true := by simp; omega
    have e4 : (op == 4) = false := beq_eq_false_iff_ne.2 g2
    replace HE := hid HE
    clear g1 hE7 g3 g2 hq
    go_enter Tryz.func78, Tryz.ntmps78
    go_wp2_with (first | (go_at_call 88; refine (HK.out _).mono ?_; rintro e w1 ⟨rfl, rfl⟩) | (go_at_call 62; go_loud (refine (HAL.out _).mono ?_; rintro e w2 ⟨rfl, x2⟩; have a2 := ext_cell x2 ((Blk.new _ _ _).cell 2); have X2 := hid x2; clear x2)))
    go_returns
    exact ⟨by rw [HE.out]; rfl, XN.out.then X2.out⟩
  · rw [decide_eq_true g1] at HK
    have e4 : (op == 4) = false := beq_eq_false_iff_ne.2 g2
    simp only at g4
    subst g4
    replace HE := hid HE
    clear g1 hE7 g2 hq
    go_enter Tryz.func78, Tryz.ntmps78
    go_wp2_with (first | (go_at_call 88; refine (HK.out _).mono ?_; rintro e w1 ⟨rfl, rfl⟩) | (go_at_call 62; go_loud (refine (HAL.out _).mono ?_; rintro e w2 ⟨rfl, x2⟩; have a2 := ext_cell x2 ((Blk.new _ _ _).cell 2); have X2 := hid x2; clear x2)))
    go_returns
    exact ⟨by rw [HE.out]; rfl, XN.out.then X2.out⟩
  · rw [decide_eq_true g1] at HK
    have e4 : (op == 4) = false := beq_eq_false_iff_ne.2 g2
    have e0 : (k == 0) = false := beq_eq_false_iff_ne.2 g4
    replace HE := hid HE
    clear g1 hE7 g2 hq g4
    go_enter Tryz.func78, Tryz.ntmps78
    go_wp2_with (first | (go_at_call 88; refine (HK.out _).mono ?_; rintro e w1 ⟨rfl, rfl⟩) | (go_at_call 62; go_loud (refine (HAL.out _).mono ?_; rintro e w2 ⟨rfl, x2⟩; have a2 := ext_cell x2 ((Blk.new _ _ _).cell 2); have X2 := hid x2; clear x2)))
    go_returns
    exact ⟨by rw [HE.out]; rfl, XN.out.then X2.out⟩
end Go.Proofs.YtolhifnlahllnaaGreatDoor
end
section
namespace Hy.Cnd
/-- the ways of a node -/
theorem al_ways (ks : List Int) (op col : Int) (c : Cel) :
    (op < 1 ∧ al ks (op, col, c) = 7) ∨ (1 ≤ op ∧ 7 < op ∧ al ks (op, col, c) = 7) ∨
    (1 ≤ op ∧ op ≤ 4 ∧ sz op = 0 ∧ al ks (op, col, c) = lf ks (op, col, c)) ∨
    ((op = 5 ∨ op = 6 ∨ op = 7) ∧ col ≠ 0 ∧ al ks (op, col, c) = 1) ∨
    ((op = 5 ∨ op = 6 ∨ op = 7) ∧ col = 0 ∧ c ≠ O ∧ al ks (op, col, c) = 1) ∨
    ((op = 5 ∨ op = 6 ∨ op = 7) ∧ col = 0 ∧ c = O ∧ al ks (op, col, c) = 0) := by
  unfold al
  by_cases h1 : op < 1
  · exact .inl ⟨h1, if_pos (.inl h1)⟩
  by_cases h2 : 7 < op
  · exact .inr (.inl ⟨by omega, h2, if_pos (.inr h2)⟩)
  rw [if_neg (by simp only; omega)]
  by_cases h3 : op ≤ 4
  · have hs : sz op = 0 := by unfold sz; rw [if_neg (by omega), if_neg (by omega)]
    exact .inr (.inr (.inl ⟨by omega, h3, hs, if_pos hs⟩))
  have h5 : op = 5 ∨ op = 6 ∨ op = 7 := by omega
  have hs : ¬ sz op = 0 := by unfold sz; rcases h5 with rfl | rfl | rfl <;> decide
  rw [if_neg hs]
  by_cases h6 : col = 0
  · by_cases h7 : c = O
    · exact .inr (.inr (.inr (.inr (.inr ⟨h5, h6, h7, if_neg (by simp only; rintro (h | h); exact h h6; exact h h7)⟩))))
    · exact .inr (.inr (.inr (.inr (.inl ⟨h5, h6, h7, if_pos (.inr h7)⟩))))
  · exact .inr (.inr (.inr (.inl ⟨h5, h6, if_pos (.inl h6)⟩)))
theorem al_rng {ks : List Int} {c : Cnd} (h : al ks c = 0) : 1 ≤ c.1 ∧ c.1 ≤ 7 := by
  unfold al at h
  by_cases h1 : c.1 < 1 ∨ 7 < c.1
  · rw [if_pos h1] at h; omega
  · omega
end Hy.Cnd
end
section
namespace Go.Proofs.YtolhifnlahllnaaGreatDoor
open Go.RowKit Hy
set_option maxHeartbeats 6400000 in
theorem pCheck_any (ks : List Int) (p : List Cnd) (P K : Option Addr) (n pcap m kcap : Nat) (w : World) (hn : p.length = n) (hp : Rd w P (cns p)) (hnl : n ≤ 140737488355328) (hm : ks.length = m) (hk : Rd w K (i64s ks)) (hml : m ≤ 140737488355328) :
    Calls Tryz.prog 36 #[.slice P n pcap, .slice K m kcap] w fun e w' => e = .returned (.int .i64 (Cnd.chk ks p : Nat)) ∧ Ext w w' := by
  have HN := hid hn
  have HP := hid hp
  obtain ⟨R, hR⟩ : ∃ R, R = Cnd.chk ks p := ⟨_, rfl⟩
  rw [← hR]
  have HR := hid (show R = if 16 < p.length then 2 else Cnd.pk ks 0 p by rw [hR]; unfold Cnd.chk; rfl)
  have HC := hid (fun (c : Cnd) wx (hx : Ext w wx) => leaf_any ks c K m kcap wx hm (hk.keep hx) hml)
  have hnI : (n : Int) ≤ 140737488355328 := by omega
  clear hR hp hn hk hm hml
  by_cases h16 : 16 < n
  · have HE := hid (show R = 2 by rw [HR.out, if_pos (by rw [HN.out]; exact h16)])
    have hI : 16 < (n : Int) := by omega
    clear HR h16 hnl
    go_enter Tryz.func36, Tryz.ntmps36
    go_wp2
    go_returns
    exact ⟨by rw [HE.out]; rfl, ext_refl _⟩
  have hI : (n : Int) ≤ 16 := by omega
  have HR0 := hid (show R = Cnd.pk ks 0 (p.drop 0) by rw [HR.out, if_neg (by rw [HN.out]; exact h16)]; rfl)
  clear HR h16 hnl

  by_cases h0 : n = 0
  · subst h0
    have hE : R = 1 := by
      rw [HR0.out, List.drop_of_length_le (by rw [HN.out]; exact Nat.le_refl _)]; rfl
    have HE := hid hE
    clear hE
    go_enter Tryz.func36, Tryz.ntmps36
    go_wp2
    go_returns
    exact ⟨by rw [HE.out]; rfl, ext_refl _⟩
  have h0I : ((n : Int) == 0) = false := by rw [beq_eq_false_iff_ne]; omega
  clear h0
  go_enter Tryz.func36, Tryz.ntmps36
  go_wp2
  go_loopw [5, 7, 20] (fun x _ c wr => ∃ k o : Nat, k ≤ n ∧ o ≤ k ∧ c = .int .i64 k ∧ x = .int .i64 o ∧ Hid (R = Cnd.pk ks o (p.drop k)) ∧ Ext w wr) (fun _ _ c _ => n - (intOf c).toNat)
  case atStart => exact ⟨0, 0, Nat.zero_le _, Nat.le_refl _, rfl, rfl, HR0, ext_refl _⟩
  case round =>
    obtain ⟨k, o, hk, hok, rfl, rfl, HI, X⟩ := hrel
    by_cases hlt : k < n
    · have hka : k < p.length := by rw [HN.out]; exact hlt
      obtain ⟨b1, o1, e1, l1, c1⟩ := HP.out.cnds k hka
      subst e1
      have d0 := (X.cell (p := ⟨b1, o1 + k * 5, none⟩) l1).trans (c1 k hka).1
      have d1 := (X.cell (p := ⟨b1, o1 + k * 5 + 1, none⟩) l1).trans (c1 k hka).2.1
      have d2 := (X.cell (p := ⟨b1, o1 + k * 5 + 2, none⟩) l1).trans (c1 k hka).2.2.1
      have d3 := (X.cell (p := ⟨b1, o1 + k * 5 + 3, none⟩) l1).trans (c1 k hka).2.2.2.1
      have d4 := (X.cell (p := ⟨b1, o1 + k * 5 + 4, none⟩) l1).trans (c1 k hka).2.2.2.2
      have HCC := hid (HC.out p[k])
      have HBA := hid (fun h => Cnd.pk_bad (ks := ks) (o := o) hka h)
      have HBF := hid (fun h h2 => Cnd.pk_few (ks := ks) (o := o) hka h h2)
      have HBN := hid (fun h h2 => Cnd.pk_next (ks := ks) (o := o) hka h h2)
      clear c1
      generalize p[k] = c at *
      clear hka
      obtain ⟨op, col, kk, nn, ss⟩ := c
      simp only at d0 d1 d2 d3 d4
      have hoI : (o : Int) ≤ (k : Int) := by omega
      have hkI : (k : Int) < (n : Int) := by omega

      have hw := Cnd.al_ways ks op col (kk, nn, ss)
      have HPT := hid (parts_any op)
      have hq : ∀ w, (binOp .neq 42 (.agg #[.int .i64 kk, .int .u64 (nn : Int), .string ss]) (.agg #[.int .i64 0, .int .u64 0, .string ⟨#[]⟩])).run Tryz.prog w = .ok (.bool (!decide (((kk, nn, ss) : Cel) = Cnd.O))) w := fun w => cel_neq kk 0 nn 0 ss ⟨#[]⟩ w
      obtain ⟨E, hE⟩ : ∃ E, E = Cnd.al ks (op, col, kk, nn, ss) := ⟨_, rfl⟩
      have hE7 := Cnd.al_le ks (op, col, kk, nn, ss)
      rw [← hE] at hw HBA HBF HBN hE7
      clear hE
      have XR := hid (X.new (.cells #[.int .i64 op, .int .i64 col, .int .i64 kk, .int .u64 (nn : Int), .string ss] 58))
      rcases hw with ⟨h1, HE⟩ | ⟨h1, h2, HE⟩ | ⟨h1, h2, h3, HE⟩ | ⟨h5, h6, HE⟩ | ⟨h5, rfl, h7, HE⟩ | ⟨h5, rfl, h7, HE⟩
      · have HV := hid (show R = 7 by rw [HI.out, HBA.out (by rw [HE]; decide), HE])
        clear HBA HBF HBN HI HE hE7 hq
        go_wp2_with (go_at_call 77; refine (HPT.out _).mono ?_; rintro e w1 ⟨rfl, rfl⟩)
        go_returns
        exact ⟨by rw [HV.out]; rfl, XR.out⟩
      · have HV := hid (show R = 7 by rw [HI.out, HBA.out (by rw [HE]; decide), HE])
        clear HBA HBF HBN HI HE hE7 hq
        go_wp2_with (go_at_call 77; refine (HPT.out _).mono ?_; rintro e w1 ⟨rfl, rfl⟩)
        go_returns
        exact ⟨by rw [HV.out]; rfl, XR.out⟩
      · have hs : Cnd.sz op = 0 := h3
        have HSZ := hid hs
        rw [hs] at HPT
        have HEL := hid HE
        rw [← HE] at HCC
        clear hs h3 HE
        by_cases hE0 : E = 0
        · have HN2 := hid (show R = Cnd.pk ks (o + 1) (p.drop (k + 1)) by
            rw [HI.out, HBN.out hE0 (by simp only; rw [HSZ.out]; exact Nat.not_lt_zero _)]; simp only; rw [HSZ.out]; rfl)
          subst hE0
          clear HBA HBF HBN hE7 HI HEL HSZ hq
          go_wp2_with (first | (go_at_call 77; refine (HPT.out _).mono ?_; rintro e w1 ⟨rfl, rfl⟩) | (go_at_call 78; go_loud (refine (HCC.out _ XR.out).mono ?_; rintro e w2 ⟨rfl, x2⟩; have X2 := hid x2; clear x2)))
          go_roundw
          case rel => exact ⟨k + 1, o + 1, by omega, by omega, by go_num, by go_num, HN2, XR.out.then X2.out⟩
          case measure => simp [intOf]; omega
        · have HV := hid (show R = E by rw [HI.out, HBA.out hE0])
          have e1 : ((E : Int) != 0) = true := by simp; omega
          clear HBA HBF HBN hE7 HI HEL HSZ hq hE0
          go_wp2_with (first | (go_at_call 77; refine (HPT.out _).mono ?_; rintro e w1 ⟨rfl, rfl⟩) | (go_at_call 78; go_loud (refine (HCC.out _ XR.out).mono ?_; rintro e w2 ⟨rfl, x2⟩; have X2 := hid x2; clear x2)))
          go_returns
          exact ⟨by rw [HV.out]; rfl, XR.out.then X2.out⟩
      · have e6 : (col != 0) = true := by simp; exact h6
        have HV := hid (show R = 1 by rw [HI.out, HBA.out (by rw [HE]; decide), HE])
        clear HBA HBF HBN HI HE hE7 hq h6
        rcases h5 with rfl | rfl | rfl
        all_goals (
          go_wp2_with (go_at_call 77; refine (HPT.out _).mono ?_; rintro e w1 ⟨rfl, rfl⟩)
          go_returns
          exact ⟨by rw [HV.out]; rfl, XR.out⟩)
      · rw [decide_eq_false h7] at hq
        have HV := hid (show R = 1 by rw [HI.out, HBA.out (by rw [HE]; decide), HE])
        clear HBA HBF HBN HI HE hE7 h7
        rcases h5 with rfl | rfl | rfl
        all_goals (
          go_wp2_with (go_at_call 77; refine (HPT.out _).mono ?_; rintro e w1 ⟨rfl, rfl⟩)
          go_returns
          exact ⟨by rw [HV.out]; rfl, XR.out⟩)
      · rw [decide_eq_true h7] at hq
        clear HBA h7 hE7
        have hs : ∃ q : Nat, Cnd.sz op = q ∧ 1 ≤ q ∧ q ≤ 2 := by rcases h5 with rfl | rfl | rfl <;> exact ⟨_, rfl, by decide, by decide⟩
        obtain ⟨q, hs, hq1, hq2⟩ := hs
        have HSZ := hid hs
        rw [hs] at HPT
        clear hs
        have eq0 : ((q : Int) == 0) = false := by rw [beq_eq_false_iff_ne]; omega
        by_cases hof : o < q
        · have HV := hid (show R = 1 by rw [HI.out, HBF.out HE (by simp only; rw [HSZ.out]; exact hof)])
          have hofI : (o : Int) < (q : Int) := by omega
          clear HBF HBN HI HE HSZ hof hq1 hq2
          rcases h5 with rfl | rfl | rfl
          all_goals (
            go_wp2_with (go_at_call 77; refine (HPT.out _).mono ?_; rintro e w1 ⟨rfl, rfl⟩)
            go_returns
            exact ⟨by rw [HV.out]; rfl, XR.out⟩)
        · have HN2 := hid (show R = Cnd.pk ks (o - q + 1) (p.drop (k + 1)) by
            rw [HI.out, HBN.out HE (by simp only; rw [HSZ.out]; exact hof)]; simp only; rw [HSZ.out])
          have hofI : (q : Int) ≤ (o : Int) := by omega
          have hqI1 : (1 : Int) ≤ (q : Int) := by omega
          have hqI2 : (q : Int) ≤ 2 := by omega
          have wq : IntKind.i64.wrap (1 - (q : Int)) = 1 - (q : Int) := by rw [IntKind.wrap_i64]; omega
          have HQ := hid (show q ≤ o ∧ 1 ≤ q from ⟨by omega, hq1⟩)
          clear HBF HBN HI HE HSZ hof hq1 hq2
          rcases h5 with rfl | rfl | rfl
          all_goals (
            go_wp2_with (go_at_call 77; refine (HPT.out _).mono ?_; rintro e w1 ⟨rfl, rfl⟩)
            go_roundw
            case rel => exact ⟨k + 1, o - q + 1, by omega, by have := HQ.out; omega, by go_num, by have := HQ.out; go_num, HN2, XR.out⟩
            case measure => simp [intOf]; omega)
    · obtain rfl : k = n := by omega
      have HE := hid (show R = if o = 1 then 0 else 1 by rw [HI.out, List.drop_of_length_le (by rw [HN.out]; exact Nat.le_refl _)]; rfl)
      clear HI
      by_cases h1 : o = 1
      · subst h1
        go_wp2
        go_returns
        exact ⟨by rw [HE.out]; rfl, X⟩
      · have e1 : ((o : Int) != 1) = true := by simp; omega
        have HE2 := hid (show R = 1 by rw [HE.out, if_neg h1])
        clear h1 HE
        go_wp2
        go_returns
        exact ⟨by rw [HE2.out]; rfl, X⟩
end Go.Proofs.YtolhifnlahllnaaGreatDoor
end
