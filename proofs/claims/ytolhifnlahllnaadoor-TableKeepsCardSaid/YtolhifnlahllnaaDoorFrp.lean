/- Front: plain words and laws. No program in sight. -/
import Derived.Test.YtolhifnlahllnaaDoorVap
namespace Hy.Front
open Go Hy.Vary
abbrev Tx := List UInt8
def shr : Tx → Tx → Nat
  | x :: a, y :: b => if x = y then shr a b + 1 else 0
  | _, _ => 0
theorem shr_nil (b : Tx) : shr [] b = 0 := by cases b <;> rfl
theorem shr_le : ∀ a b : Tx, shr a b ≤ a.length ∧ shr a b ≤ b.length
  | [], b => by rw [shr_nil]; simp
  | a :: x, [] => by simp [shr]
  | a :: x, b :: y => by
    have := shr_le x y
    simp only [shr, List.length_cons]
    split <;> omega
theorem shr_take : ∀ a b : Tx, a.take (shr a b) = b.take (shr a b)
  | [], b => by rw [shr_nil]; simp
  | a :: x, [] => by simp [shr]
  | a :: x, b :: y => by
    simp only [shr]
    split
    · rename_i h; subst h; rw [List.take_succ_cons, List.take_succ_cons, shr_take x y]
    · simp
theorem shr_comm : ∀ a b : Tx, shr a b = shr b a
  | [], b => by cases b <;> rfl
  | a :: x, [] => rfl
  | a :: x, b :: y => by
    simp only [shr]
    rw [shr_comm x y]
    by_cases h : a = b
    · rw [if_pos h, if_pos h.symm]
    · rw [if_neg h, if_neg fun k => h k.symm]
theorem shr_ge : ∀ (k : Nat) (a b : Tx), a.take k = b.take k → k ≤ a.length → k ≤ b.length → k ≤ shr a b
  | 0, _, _, _, _, _ => Nat.zero_le _
  | k + 1, [], b, _, h, _ => by simp at h
  | k + 1, a :: x, [], _, _, h => by simp at h
  | k + 1, a :: x, b :: y, ht, h1, h2 => by
    simp only [List.take_succ_cons, List.cons.injEq] at ht
    simp only [shr, if_pos ht.1]
    have := shr_ge k x y ht.2 (by simpa using h1) (by simpa using h2)
    omega
theorem shr_self (a : Tx) : shr a a = a.length := by
  have := shr_ge a.length a a rfl (Nat.le_refl _) (Nat.le_refl _)
  have := (shr_le a a).1
  omega
/-- what is in common for k bytes goes on, or stops -/
theorem shr_more (a b : Tx) (k : Nat) (ht : a.take k = b.take k) (h1 : k < a.length) (h2 : k < b.length) (e : a[k] = b[k]) : a.take (k + 1) = b.take (k + 1) := by
  rw [List.take_succ_eq_append_getElem h1, List.take_succ_eq_append_getElem h2, ht, e]
theorem shr_stop (a b : Tx) (k : Nat) (ht : a.take k = b.take k) (h1 : k ≤ a.length) (h2 : k ≤ b.length) (h : ∀ (ha : k < a.length) (hb : k < b.length), a[k] ≠ b[k]) : shr a b = k := by
  have h3 := shr_ge k a b ht h1 h2
  rcases Nat.lt_or_ge k (shr a b) with h4 | h4
  · have h5 := shr_le a b
    have h6 := congrArg (fun l : Tx => l[k]?) (shr_take a b)
    simp only [List.getElem?_take_of_lt h4] at h6
    rw [List.getElem?_eq_getElem (by omega), List.getElem?_eq_getElem (by omega), Option.some.injEq] at h6
    exact absurd h6 (h (by omega) (by omega))
  · omega
theorem shr_iff (a b : Tx) (k : Nat) (h1 : k ≤ a.length) (h2 : k ≤ b.length) : k ≤ shr a b ↔ a.take k = b.take k := by
  refine ⟨fun h => ?_, fun h => shr_ge k a b h h1 h2⟩
  have := congrArg (List.take k) (shr_take a b)
  rw [List.take_take, List.take_take, Nat.min_eq_left h] at this
  exact this

/-! ### a list's bytes -/
def one (last s : Tx) : Tx := wr (shr last s) ++ (wr (s.length - shr last s) ++ s.drop (shr last s))
def enc : Tx → List Tx → Tx
  | _, [] => []
  | last, s :: r => one last s ++ enc s r
theorem enc_snoc (last : Tx) (l : List Tx) (s : Tx) : enc last (l ++ [s]) = enc last l ++ one (l.getLastD last) s := by
  induction l generalizing last with
  | nil => simp [enc]
  | cons t l ih => rw [List.cons_append, enc, enc, ih, List.append_assoc, List.getLastD_cons]
@[irreducible] def bytes (l : List Tx) : Tx := enc [] l
theorem bytes_eq (l : List Tx) : bytes l = enc [] l := by unfold bytes; rfl
def fitB (l : List Tx) : Bool := l.all fun s => decide (s.length ≤ 16)
theorem fitB_iff (l : List Tx) : fitB l = true ↔ ∀ s ∈ l, s.length ≤ 16 := by simp [fitB]
/-- Write: the bytes, what is wrong -/
@[irreducible] def wrt (l : List Tx) : Tx × Nat := if l.length ≤ 64 ∧ fitB l = true then (bytes l, 0) else ([], 2)
theorem wrt_ok {l : List Tx} (h1 : l.length ≤ 64) (h2 : fitB l = true) : wrt l = (bytes l, 0) := by unfold wrt; rw [if_pos ⟨h1, h2⟩]
theorem wrt_bad {l : List Tx} (h : ¬ (l.length ≤ 64 ∧ fitB l = true)) : wrt l = ([], 2) := by unfold wrt; rw [if_neg h]

/-! ### reading -/
/-- a text that comes next: itself, what is left, what is wrong -/
@[irreducible] def txt (s last : Tx) : Tx × Tx × Nat :=
  if (rd s).2.2 ≠ 0 then ([], [], (rd s).2.2) else
  if (rd (s.drop (rd s).2.1)).2.2 ≠ 0 then ([], [], (rd (s.drop (rd s).2.1)).2.2) else
  if last.length < (rd s).1 then ([], [], 3) else
  if 16 - (rd s).1 < (rd (s.drop (rd s).2.1)).1 then ([], [], 2) else
  if ((s.drop (rd s).2.1).drop (rd (s.drop (rd s).2.1)).2.1).length < (rd (s.drop (rd s).2.1)).1 then ([], [], 5) else
  if shr last (last.take (rd s).1 ++ ((s.drop (rd s).2.1).drop (rd (s.drop (rd s).2.1)).2.1).take (rd (s.drop (rd s).2.1)).1) ≠ (rd s).1 then ([], [], 1) else
  (last.take (rd s).1 ++ ((s.drop (rd s).2.1).drop (rd (s.drop (rd s).2.1)).2.1).take (rd (s.drop (rd s).2.1)).1,
    ((s.drop (rd s).2.1).drop (rd (s.drop (rd s).2.1)).2.1).drop (rd (s.drop (rd s).2.1)).1, 0)
section
variable {s last s1 s2 : Tx} {n k e m j f : Nat}
theorem txt_1 (h1 : rd s = (n, k, e)) (he : e ≠ 0) : txt s last = ([], [], e) := by unfold txt; rw [h1]; simp [he]
theorem txt_2 (h1 : rd s = (n, k, 0)) (hs1 : s1 = s.drop k) (h2 : rd s1 = (m, j, f)) (hf : f ≠ 0) : txt s last = ([], [], f) := by subst hs1; unfold txt; rw [h1]; simp [h2, hf]
theorem txt_3 (h1 : rd s = (n, k, 0)) (hs1 : s1 = s.drop k) (h2 : rd s1 = (m, j, 0)) (h3 : last.length < n) : txt s last = ([], [], 3) := by subst hs1; unfold txt; rw [h1]; simp [h2, h3]
theorem txt_4 (h1 : rd s = (n, k, 0)) (hs1 : s1 = s.drop k) (h2 : rd s1 = (m, j, 0)) (h3 : ¬ last.length < n) (h4 : 16 - n < m) : txt s last = ([], [], 2) := by subst hs1; unfold txt; rw [h1]; simp [h2, h3, h4]
theorem txt_5 (h1 : rd s = (n, k, 0)) (hs1 : s1 = s.drop k) (h2 : rd s1 = (m, j, 0)) (h3 : ¬ last.length < n) (h4 : ¬ 16 - n < m) (hs2 : s2 = s1.drop j) (h5 : s2.length < m) : txt s last = ([], [], 5) := by
  subst hs2 hs1; unfold txt; simp only [h1, h2]; rw [if_neg (by simp), if_neg (by simp), if_neg h3, if_neg h4, if_pos h5]
theorem txt_6 (h1 : rd s = (n, k, 0)) (hs1 : s1 = s.drop k) (h2 : rd s1 = (m, j, 0)) (h3 : ¬ last.length < n) (h4 : ¬ 16 - n < m) (hs2 : s2 = s1.drop j) (h5 : ¬ s2.length < m) (h6 : shr last (last.take n ++ s2.take m) ≠ n) : txt s last = ([], [], 1) := by
  subst hs2 hs1; unfold txt; simp only [h1, h2]; rw [if_neg (by simp), if_neg (by simp), if_neg h3, if_neg h4, if_neg h5, if_pos h6]
theorem txt_7 (h1 : rd s = (n, k, 0)) (hs1 : s1 = s.drop k) (h2 : rd s1 = (m, j, 0)) (h3 : ¬ last.length < n) (h4 : ¬ 16 - n < m) (hs2 : s2 = s1.drop j) (h5 : ¬ s2.length < m) (h6 : shr last (last.take n ++ s2.take m) = n) : txt s last = (last.take n ++ s2.take m, s2.drop m, 0) := by
  subst hs2 hs1; unfold txt; simp only [h1, h2]; rw [if_neg (by simp), if_neg (by simp), if_neg h3, if_neg h4, if_neg h5, if_neg (by simpa using h6)]
end
/-- what is read is what was written -/
theorem txt_ok {s last t r : Tx} (hl : last.length ≤ 16) (h : txt s last = (t, r, 0)) : s = one last t ++ r ∧ t.length ≤ 16 := by
  obtain ⟨n, k, e, h1⟩ : ∃ n k e, rd s = (n, k, e) := ⟨_, _, _, rfl⟩
  by_cases he : e = 0
  · subst he
    obtain ⟨m, j, f, h2⟩ : ∃ m j f, rd (s.drop k) = (m, j, f) := ⟨_, _, _, rfl⟩
    by_cases hf : f = 0
    · subst hf
      by_cases h3 : last.length < n
      · rw [txt_3 h1 rfl h2 h3] at h; simp at h
      · by_cases h4 : 16 - n < m
        · rw [txt_4 h1 rfl h2 h3 h4] at h; simp at h
        · by_cases h5 : ((s.drop k).drop j).length < m
          · rw [txt_5 h1 rfl h2 h3 h4 rfl h5] at h; simp at h
          · by_cases h6 : shr last (last.take n ++ ((s.drop k).drop j).take m) = n
            · rw [txt_7 h1 rfl h2 h3 h4 rfl h5 h6] at h
              simp only [Prod.mk.injEq, and_true] at h
              obtain ⟨rfl, rfl⟩ := h
              obtain ⟨_, k2, _, _, w1⟩ := rd_ok (s := s) (by rw [h1])
              obtain ⟨_, j2, _, _, w2⟩ := rd_ok (s := s.drop k) (by rw [h2])
              rw [h1] at w1 k2
              rw [h2] at w2 j2
              simp only at w1 w2 k2 j2
              have ln : (last.take n).length = n := by rw [List.length_take]; omega
              have lm : (((s.drop k).drop j).take m).length = m := by rw [List.length_take]; omega
              refine ⟨?_, by rw [List.length_append, ln, lm]; omega⟩
              unfold one
              rw [h6, List.length_append, ln, lm, Nat.add_sub_cancel_left, List.drop_left' ln, w1, w2, List.append_assoc, List.append_assoc, List.take_append_drop, List.take_append_drop, List.take_append_drop]
            · rw [txt_6 h1 rfl h2 h3 h4 rfl h5 h6] at h; simp at h
    · rw [txt_2 h1 rfl h2 hf] at h; simp at h; omega
  · rw [txt_1 h1 he] at h; simp at h; omega
theorem txt_one (last s r : Tx) (hs : s.length ≤ 16) (hl : last.length ≤ 16) : txt (one last s ++ r) last = (s, r, 0) := by
  have hle := shr_le last s
  have ht := shr_take last s
  have hw1 : rd (one last s ++ r) = (shr last s, beh (shr last s) + 1, 0) := by
    unfold one; rw [List.append_assoc]; exact rd_wr _ _ (by omega)
  have hd1 : (one last s ++ r).drop (beh (shr last s) + 1) = wr (s.length - shr last s) ++ (s.drop (shr last s) ++ r) := by
    unfold one; rw [List.append_assoc, List.append_assoc, List.drop_left' (wr_len _)]
  have hw2 : rd (wr (s.length - shr last s) ++ (s.drop (shr last s) ++ r)) = (s.length - shr last s, beh (s.length - shr last s) + 1, 0) := rd_wr _ _ (by omega)
  have hd2 : (wr (s.length - shr last s) ++ (s.drop (shr last s) ++ r)).drop (beh (s.length - shr last s) + 1) = s.drop (shr last s) ++ r := List.drop_left' (wr_len _)
  have hl2 : (s.drop (shr last s)).length = s.length - shr last s := List.length_drop
  have hx : last.take (shr last s) ++ (s.drop (shr last s) ++ r).take (s.length - shr last s) = s := by
    rw [ht, List.take_left' hl2, List.take_append_drop]
  have := txt_7 (last := last) hw1 hd1.symm hw2 (by omega) (by omega) hd2.symm (by rw [List.length_append]; omega) (by rw [hx])
  rw [this, hx, List.drop_left' hl2]
/-- so many texts -/
def rds : Nat → Tx → Tx → List Tx × Nat
  | 0, s, _ => if s = [] then ([], 0) else ([], 1)
  | k + 1, s, last => if (txt s last).2.2 ≠ 0 then ([], (txt s last).2.2) else ((txt s last).1 :: (rds k (txt s last).2.1 (txt s last).1).1, (rds k (txt s last).2.1 (txt s last).1).2)
theorem rds_ok {k : Nat} {s last t r : Tx} (h : txt s last = (t, r, 0)) : rds (k + 1) s last = (t :: (rds k r t).1, (rds k r t).2) := by simp [rds, h]
theorem rds_bad {k e : Nat} {s last t r : Tx} (h : txt s last = (t, r, e)) (he : e ≠ 0) : rds (k + 1) s last = ([], e) := by simp [rds, h, he]
theorem rds_enc (l : List Tx) (last : Tx) (h : ∀ s ∈ l, s.length ≤ 16) (hl : last.length ≤ 16) : rds l.length (enc last l) last = (l, 0) := by
  induction l generalizing last with
  | nil => simp [rds, enc]
  | cons s l ih =>
    have hs := h s (by simp)
    rw [List.length_cons, enc, rds_ok (txt_one last s (enc s l) hs hl), ih s (fun t ht => h t (by simp [ht])) hs]
theorem rds_only : ∀ (k : Nat) (s last : Tx) (l : List Tx), last.length ≤ 16 → rds k s last = (l, 0) → s = enc last l ∧ l.length = k ∧ ∀ t ∈ l, t.length ≤ 16
  | 0, s, last, l, _, h => by
    by_cases hs : s = []
    · simp only [rds, if_pos hs, Prod.mk.injEq, and_true] at h; subst h; subst hs; exact ⟨rfl, rfl, fun t ht => by cases ht⟩
    · simp [rds, hs] at h
  | k + 1, s, last, l, hl, h => by
    obtain ⟨t, r, e, ht⟩ : ∃ t r e, txt s last = (t, r, e) := ⟨_, _, _, rfl⟩
    by_cases he : e = 0
    · subst he
      rw [rds_ok ht] at h
      simp only [Prod.mk.injEq] at h
      obtain ⟨h1, h2⟩ := h
      obtain ⟨g1, g2⟩ := txt_ok hl ht
      obtain ⟨g3, g4, g5⟩ := rds_only k r t (rds k r t).1 g2 (by rw [← h2])
      subst h1
      exact ⟨by rw [enc, ← g3, g1], by rw [List.length_cons, g4], fun x hx => by rcases List.mem_cons.1 hx with rfl | hx; exact g2; exact g5 x hx⟩
    · rw [rds_bad ht he] at h; simp at h; omega
/-- Read: the texts, what is wrong -/
@[irreducible] def rdl (s : Tx) (many : Int) : List Tx × Nat :=
  if many < 0 then ([], 3) else if 64 < many then ([], 2) else if (rds many.toNat s []).2 = 0 then rds many.toNat s [] else ([], (rds many.toNat s []).2)
theorem rdl_neg {s : Tx} {many : Int} (h : many < 0) : rdl s many = ([], 3) := by unfold rdl; rw [if_pos h]
theorem rdl_many {s : Tx} {many : Int} (h : 64 < many) : rdl s many = ([], 2) := by unfold rdl; rw [if_neg (by omega), if_pos h]
theorem rdl_in {s : Tx} {many : Nat} (h : many ≤ 64) : rdl s many = if (rds many s []).2 = 0 then rds many s [] else ([], (rds many s []).2) := by
  unfold rdl; rw [if_neg (by omega), if_neg (by omega), Int.toNat_natCast]
theorem rdl_bytes (l : List Tx) (h1 : l.length ≤ 64) (h2 : fitB l = true) : rdl (bytes l) l.length = (l, 0) := by
  rw [rdl_in h1, bytes_eq, rds_enc l [] ((fitB_iff l).1 h2) (by simp), if_pos rfl]
theorem rdl_only {s : Tx} {many : Int} {l : List Tx} (h : rdl s many = (l, 0)) : wrt l = (s, 0) ∧ (l.length : Int) = many ∧ l.length ≤ 64 := by
  by_cases h1 : many < 0
  · rw [rdl_neg h1] at h; simp at h
  · by_cases h2 : 64 < many
    · rw [rdl_many h2] at h; simp at h
    · obtain ⟨m, rfl⟩ := Int.eq_ofNat_of_zero_le (show 0 ≤ many by omega)
      rw [rdl_in (by omega)] at h
      split at h
      · obtain ⟨g1, g2, g3⟩ := rds_only m s [] l (by simp) h
        refine ⟨?_, by omega, by omega⟩
        rw [wrt_ok (by omega) ((fitB_iff l).2 g3), bytes_eq, ← g1]
      · simp only [Prod.mk.injEq] at h; omega
theorem rdl_err {s : Tx} {many : Int} (h : (rdl s many).2 ≠ 0) : (rdl s many).1 = [] := by
  by_cases h1 : many < 0
  · rw [rdl_neg h1]
  · by_cases h2 : 64 < many
    · rw [rdl_many h2]
    · obtain ⟨m, rfl⟩ := Int.eq_ofNat_of_zero_le (show 0 ≤ many by omega)
      rw [rdl_in (by omega)] at h ⊢
      split
      · rename_i h0; rw [if_pos h0] at h; exact absurd h0 h
      · rfl

/-! ### what texts share -/
theorem shr_ultra (a b c : Tx) : min (shr a b) (shr b c) ≤ shr a c := by
  have h1 := shr_le a b
  have h2 := shr_le b c
  refine shr_ge _ a c ?_ (by omega) (by omega)
  have e1 := (shr_iff a b (min (shr a b) (shr b c)) (by omega) (by omega)).1 (by omega)
  have e2 := (shr_iff b c (min (shr a b) (shr b c)) (by omega) (by omega)).1 (by omega)
  rw [e1, e2]
theorem shr_all (a b : Tx) (h : a.length = b.length) : shr a b = a.length ↔ a = b := by
  refine ⟨fun e => ?_, fun e => by rw [e, shr_self]⟩
  have := shr_take a b
  rw [e, List.take_of_length_le (Nat.le_refl _), List.take_of_length_le (by omega)] at this
  exact this
theorem less_cons (a b : UInt8) (x y : Tx) : Op.bytesLess (a :: x) (b :: y) = (decide (a < b) || (a == b && Op.bytesLess x y)) := rfl
/-- not above: the first byte that differs is less, or the text ends -/
def leq (a b : Tx) : Prop := Op.bytesLess b a = false
theorem shr_rises : ∀ a b c : Tx, leq a b → leq b c → shr a c = min (shr a b) (shr b c)
  | [], b, c, _, _ => by rw [shr_nil, shr_nil]; omega
  | x :: a, [], c, h, _ => by simp [leq, Op.bytesLess] at h
  | x :: a, y :: b, [], _, h => by simp [leq, Op.bytesLess] at h
  | x :: a, y :: b, z :: c, h1, h2 => by
    unfold leq at h1 h2
    rw [less_cons] at h1 h2
    simp only [Bool.or_eq_false_iff, decide_eq_false_iff_not, Bool.and_eq_false_iff, beq_eq_false_iff_ne, UInt8.lt_iff_toNat_lt] at h1 h2
    simp only [shr]
    by_cases e1 : x = y
    · subst e1
      by_cases e2 : x = z
      · subst e2
        have := shr_rises a b c (by rcases h1.2 with h | h; (· exact absurd rfl h); exact h) (by rcases h2.2 with h | h; (· exact absurd rfl h); exact h)
        simp only [if_true, this]; omega
      · simp [e2]
    · by_cases e2 : y = z
      · subst e2; simp [e1]
      · have h3 : x.toNat ≠ y.toNat := fun h => e1 (UInt8.toNat.inj h)
        have h4 : ¬ x = z := fun h => by subst h; have h5 : y.toNat ≠ x.toNat := fun h => e1 (UInt8.toNat.inj h.symm); omega
        simp [e1, e2, h4]
theorem one_len (last s : Tx) (h : s.length ≤ 16) : (one last s).length + shr last s = s.length + 2 := by
  have := shr_le last s
  have b1 := beh_le (shr last s) 0 (by omega) (by decide)
  have b2 := beh_le (s.length - shr last s) 0 (by omega) (by decide)
  have c1 : beh (shr last s) = 0 := by have := b1.2 (by omega); omega
  have c2 : beh (s.length - shr last s) = 0 := by have := b2.2 (by omega); omega
  unfold one
  rw [List.length_append, List.length_append, wr_len, wr_len, List.length_drop, c1, c2]; omega
end Hy.Front
