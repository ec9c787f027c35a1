/- Hybrid: plain words and laws: runs and blocks, written and read. No program in sight. -/
import Derived.Test.YtdblegdbfdhepaaVap
import Derived.Test.YtdblegdbfdhepaaBpk
namespace Hy.Hyb
open Go

/-- how many of one number stand at the beginning -/
def same (x : Nat) : List Nat → Nat
  | [] => 0
  | y :: l => if y = x then same x l + 1 else 0
def row : List Nat → Nat
  | [] => 0
  | x :: l => same x l + 1
theorem same_le (x : Nat) : ∀ l : List Nat, same x l ≤ l.length
  | [] => Nat.le_refl _
  | y :: l => by
    have := same_le x l
    unfold same
    split
    · simp only [List.length_cons]; omega
    · simp
theorem row_le (l : List Nat) : row l ≤ l.length := by
  cases l with
  | nil => exact Nat.le_refl _
  | cons x l => have := same_le x l; simp only [row, List.length_cons]; omega
theorem row_pos (x : Nat) (l : List Nat) : 1 ≤ row (x :: l) := by simp [row]
theorem same_take (x : Nat) : ∀ l : List Nat, l.take (same x l) = List.replicate (same x l) x
  | [] => rfl
  | y :: l => by
    unfold same
    split
    · rename_i h; rw [List.take_succ_cons, List.replicate_succ, same_take x l, h]
    · rfl
theorem row_take (x : Nat) (l : List Nat) : (x :: l).take (row (x :: l)) = List.replicate (row (x :: l)) x := by
  show (x :: l).take (same x l + 1) = List.replicate (same x l + 1) x
  rw [List.take_succ_cons, List.replicate_succ, same_take]
theorem same_add (x : Nat) : ∀ (l : List Nat) (k : Nat), k ≤ l.length → (∀ j (h : j < l.length), j < k → l[j] = x) → same x l = k + same x (l.drop k)
  | l, 0, _, _ => by simp
  | [], k + 1, h, _ => by simp at h
  | y :: l, k + 1, h, hall => by
    have h0 : y = x := hall 0 (by simp) (by omega)
    have ih := same_add x l k (by simpa using h) (fun j hj hk => by have := hall (j + 1) (by simpa using hj) (by omega); simpa using this)
    rw [same, if_pos h0, ih, List.drop_succ_cons]; omega
theorem same_stop (x : Nat) (l : List Nat) (k : Nat) (hk : k < l.length) (hall : ∀ j (h : j < l.length), j < k → l[j] = x) (hne : l[k] ≠ x) : same x l = k := by
  rw [same_add x l k (by omega) hall, List.drop_eq_getElem_cons hk, same, if_neg hne]; omega
theorem same_end (x : Nat) (l : List Nat) (hall : ∀ j (h : j < l.length), l[j] = x) : same x l = l.length := by
  rw [same_add x l l.length (Nat.le_refl _) (fun j h _ => hall j h), List.drop_length]; rfl
theorem row_stop (l : List Nat) (k x y : Nat) (h1 : 1 ≤ k) (hall : ∀ j, j < k → l[j]? = l[0]?) (hx : l[k]? = some x) (hy : l[0]? = some y) (hne : x ≠ y) : row l = k := by
  obtain ⟨hk, rfl⟩ := List.getElem?_eq_some_iff.1 hx
  obtain ⟨h0, rfl⟩ := List.getElem?_eq_some_iff.1 hy
  cases l with
  | nil => simp at hk
  | cons x l =>
    obtain ⟨k, rfl⟩ : ∃ j, k = j + 1 := ⟨k - 1, by omega⟩
    have := same_stop x l k (by simpa using hk) (fun j h hj => by have := hall (j + 1) (by omega); simpa [h] using this) (by simpa using hne)
    simp only [row, this]
theorem row_end (l : List Nat) (h0 : 0 < l.length) (hall : ∀ j, j < l.length → l[j]? = l[0]?) : row l = l.length := by
  cases l with
  | nil => simp at h0
  | cons x l =>
    have := same_end x l (fun j h => by have := hall (j + 1) (by simpa using h); simpa [h] using this)
    simp only [row, this, List.length_cons]

/-- blocks, the last one filled up -/
def pad (l : List Nat) : List Nat := l ++ List.replicate ((l.length + 7) / 8 * 8 - l.length) 0
theorem pad_len (l : List Nat) : (pad l).length = (l.length + 7) / 8 * 8 := by
  simp only [pad, List.length_append, List.length_replicate]; omega
theorem pad_full (l : List Nat) (h : l.length % 8 = 0) : pad l = l := by
  unfold pad; rw [show (l.length + 7) / 8 * 8 - l.length = 0 by omega]; simp
theorem pad_lt (l : List Nat) (k : Nat) (h : ∀ x ∈ l, x < 2 ^ k) : ∀ x ∈ pad l, x < 2 ^ k := by
  intro x hx
  rcases List.mem_append.1 hx with h1 | h1
  · exact h x h1
  · rw [List.eq_of_mem_replicate h1]; exact Nat.two_pow_pos k
inductive Part
  | run (x many : Nat)
  | blk (l : List Nat)
def bytes (w : Nat) : Part → List UInt8
  | .run x many => Vary.wr (2 * many) ++ Bits.packed [x] w
  | .blk l => Vary.wr (2 * (pad l).length / 8 + 1) ++ Bits.packed (pad l) w
def shut (o : List Nat) : List Part := if o = [] then [] else [.blk o]
theorem shut_nil : shut [] = [] := rfl
theorem shut_of (o : List Nat) (h : o ≠ []) : shut o = [.blk o] := by unfold shut; rw [if_neg h]
def partsF : Nat → List Nat → List Nat → List Part
  | 0, o, _ => shut o
  | f + 1, o, l => if l = [] then shut o else if 8 ≤ row l then shut o ++ .run (l.headD 0) (row l) :: partsF f [] (l.drop (row l)) else partsF f (o ++ l.take 8) (l.drop 8)
/-- the parts of a list, of which the first so many stand in open blocks -/
@[irreducible] def parts (o l : List Nat) : List Part := partsF l.length o l
theorem partsF_fuel : ∀ (f : Nat) (o l : List Nat), l.length ≤ f → partsF f o l = partsF l.length o l
  | 0, o, l, h => by
    obtain rfl : l = [] := List.length_eq_zero_iff.1 (by omega)
    rfl
  | f + 1, o, l, h => by
    by_cases hl : l = []
    · subst hl; rfl
    · obtain ⟨g, hg⟩ : ∃ g, l.length = g + 1 := ⟨l.length - 1, by have := List.length_pos_iff.2 hl; omega⟩
      rw [hg, partsF, partsF, if_neg hl, if_neg hl]
      by_cases h8 : 8 ≤ row l
      · have h1 : (l.drop (row l)).length ≤ g := by rw [List.length_drop]; omega
        rw [if_pos h8, if_pos h8, partsF_fuel f _ _ (by omega), partsF_fuel g _ _ h1]
      · have h1 : (l.drop 8).length ≤ g := by rw [List.length_drop]; omega
        rw [if_neg h8, if_neg h8, partsF_fuel f _ _ (by omega), partsF_fuel g _ _ h1]
theorem parts_nil (o : List Nat) : parts o [] = shut o := by unfold parts; rfl
theorem parts_run (o : List Nat) (x : Nat) (l : List Nat) (h : 8 ≤ row (x :: l)) : parts o (x :: l) = shut o ++ .run x (row (x :: l)) :: parts [] ((x :: l).drop (row (x :: l))) := by
  have h1 : ((x :: l).drop (row (x :: l))).length ≤ l.length := by rw [List.length_drop, List.length_cons]; have := row_pos x l; omega
  unfold parts
  rw [List.length_cons, partsF, if_neg (by simp), if_pos h, partsF_fuel l.length _ _ h1]; rfl
theorem parts_blk (o : List Nat) (x : Nat) (l : List Nat) (h : row (x :: l) < 8) : parts o (x :: l) = parts (o ++ (x :: l).take 8) ((x :: l).drop 8) := by
  have h1 : ((x :: l).drop 8).length ≤ l.length := by rw [List.length_drop, List.length_cons]; omega
  unfold parts
  rw [List.length_cons, partsF, if_neg (by simp), if_neg (by omega), partsF_fuel l.length _ _ h1]
def flat (w : Nat) (P : List Part) : List UInt8 := P.flatMap (bytes w)
theorem flat_app (w : Nat) (P Q : List Part) : flat w (P ++ Q) = flat w P ++ flat w Q := by simp [flat]
theorem flat_cons (w : Nat) (p : Part) (Q : List Part) : flat w (p :: Q) = bytes w p ++ flat w Q := by simp [flat]
theorem flat_nil (w : Nat) : flat w [] = [] := rfl
/-- Raw: of numbers that fit -/
def raw (l : List Nat) (w : Nat) : List UInt8 := flat w (parts [] l)
theorem bytes_run (w x m : Nat) : bytes w (.run x m) = Vary.wr (2 * m) ++ Bits.packed [x] w := rfl
theorem bytes_blk (w : Nat) (l : List Nat) : bytes w (.blk l) = Vary.wr (2 * (pad l).length / 8 + 1) ++ Bits.packed (pad l) w := rfl

/-- what parts of numbers that fit are -/
def Part.ok (w n : Nat) : Part → Prop
  | .run x m => x < 2 ^ w ∧ 1 ≤ m ∧ m ≤ n
  | .blk b => b ≠ [] ∧ b.length ≤ n ∧ ∀ x ∈ b, x < 2 ^ w
theorem shut_ok (w n : Nat) (o : List Nat) (h : ∀ x ∈ o, x < 2 ^ w) (hn : o.length ≤ n) : ∀ p ∈ shut o, p.ok w n := fun p hp => by
  unfold shut at hp
  split at hp
  · cases hp
  · rename_i h0
    rw [List.mem_singleton] at hp
    subst hp
    exact ⟨h0, hn, h⟩
theorem parts_ok (w n : Nat) : ∀ (k : Nat) (l o : List Nat), l.length ≤ k → (∀ x ∈ o ++ l, x < 2 ^ w) → o.length + l.length ≤ n → ∀ p ∈ parts o l, p.ok w n := by
  intro k
  induction k with
  | zero =>
    intro l o hk hl hn
    obtain rfl : l = [] := List.length_eq_zero_iff.1 (by omega)
    rw [parts_nil]
    exact shut_ok w n o (fun x hx => hl x (by simp [hx])) (by simpa using hn)
  | succ k ih =>
    intro l o hk hl hn
    cases l with
    | nil => exact ih [] o (by simp) hl hn
    | cons x l =>
      by_cases h8 : 8 ≤ row (x :: l)
      · have hrl := row_le (x :: l)
        have hrp := row_pos x l
        rw [parts_run o x l h8]
        intro p hp
        rcases List.mem_append.1 hp with hp | hp
        · exact shut_ok w n o (fun x hx => hl x (by simp [hx])) (by omega) p hp
        · rcases List.mem_cons.1 hp with rfl | hp
          · exact ⟨hl x (by simp), hrp, by omega⟩
          · refine ih _ [] (by rw [List.length_drop]; simp only [List.length_cons] at hk ⊢; omega) (fun y hy => hl y ?_) (by simp only [List.length_nil, List.length_drop]; omega) p hp
            exact List.mem_append.2 (.inr (List.mem_of_mem_drop (by simpa using hy)))
      · rw [parts_blk o x l (by omega)]
        have e := congrArg List.length (List.take_append_drop 8 (x :: l))
        rw [List.length_append] at e
        exact ih _ _ (by rw [List.length_drop]; simp only [List.length_cons] at hk ⊢; omega) (by rw [List.append_assoc, List.take_append_drop]; exact hl) (by rw [List.length_append]; omega)
theorem parts_len : ∀ (k : Nat) (l o : List Nat), l.length ≤ k → (parts o l).length ≤ l.length + l.length + 1 := by
  intro k
  induction k with
  | zero =>
    intro l o hk
    obtain rfl : l = [] := List.length_eq_zero_iff.1 (by omega)
    rw [parts_nil]; unfold shut; split <;> simp
  | succ k ih =>
    intro l o hk
    cases l with
    | nil => exact ih [] o (by simp)
    | cons x l =>
      by_cases h8 : 8 ≤ row (x :: l)
      · have hrl := row_le (x :: l)
        rw [parts_run o x l h8]
        have := ih ((x :: l).drop (row (x :: l))) [] (by rw [List.length_drop]; simp only [List.length_cons] at hk ⊢; omega)
        rw [List.length_drop] at this
        have h1 : (shut o).length ≤ 1 := by unfold shut; split <;> simp
        rw [List.length_append, List.length_cons]
        omega
      · rw [parts_blk o x l (by omega)]
        have := ih ((x :: l).drop 8) (o ++ (x :: l).take 8) (by rw [List.length_drop]; simp only [List.length_cons] at hk ⊢; omega)
        rw [List.length_drop] at this
        omega
/-! ### reading -/
/-- a part that comes next, where so many are still wanted: what is wrong, its numbers, how many bytes it has -/
@[irreducible] def stp (w left : Nat) (s : List UInt8) : Nat × List Nat × Nat :=
  if (Vary.rd s).2.2 ≠ 0 then ((Vary.rd s).2.2, [], 0)
  else if (Vary.rd s).1 < 2 then (1, [], 0)
  else if (Vary.rd s).1 % 2 = 0 then
    if left < (Vary.rd s).1 / 2 then (2, [], 0)
    else if s.length - (Vary.rd s).2.1 < Bits.size 1 w then (5, [], 0)
    else if Bits.chk ((s.drop (Vary.rd s).2.1).take (Bits.size 1 w)) 1 w ≠ 0 then (1, [], 0)
    else (0, List.replicate ((Vary.rd s).1 / 2) (Bits.le ((s.drop (Vary.rd s).2.1).take (Bits.size 1 w)) % 2 ^ w), (Vary.rd s).2.1 + Bits.size 1 w)
  else
    if (left + 7) / 8 < (Vary.rd s).1 / 2 then (2, [], 0)
    else if s.length - (Vary.rd s).2.1 < Bits.size ((Vary.rd s).1 / 2 * 8) w then (5, [], 0)
    else if Bits.chk ((s.drop (Vary.rd s).2.1).take (Bits.size ((Vary.rd s).1 / 2 * 8) w)) ((Vary.rd s).1 / 2 * 8 : Nat) w ≠ 0 then (1, [], 0)
    else if ((Bits.unp ((s.drop (Vary.rd s).2.1).take (Bits.size ((Vary.rd s).1 / 2 * 8) w)) ((Vary.rd s).1 / 2 * 8) w).drop left).all (· == 0) = true then
      (0, (Bits.unp ((s.drop (Vary.rd s).2.1).take (Bits.size ((Vary.rd s).1 / 2 * 8) w)) ((Vary.rd s).1 / 2 * 8) w).take left, (Vary.rd s).2.1 + Bits.size ((Vary.rd s).1 / 2 * 8) w)
    else (1, [], 0)
def rdF (w many : Nat) : Nat → List UInt8 → List Nat → List Nat × Nat
  | 0, s, o => if many ≤ o.length then (if s = [] then (o, 0) else ([], 1)) else ([], 0)
  | f + 1, s, o => if many ≤ o.length then (if s = [] then (o, 0) else ([], 1)) else
      if (stp w (many - o.length) s).1 ≠ 0 then ([], (stp w (many - o.length) s).1) else rdF w many f (s.drop (stp w (many - o.length) s).2.2) (o ++ (stp w (many - o.length) s).2.1)
end Hy.Hyb
