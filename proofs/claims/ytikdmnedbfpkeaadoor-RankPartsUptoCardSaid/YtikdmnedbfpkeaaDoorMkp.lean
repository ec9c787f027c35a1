/- Marks as words of 64 bits: plain words and laws. No program in sight. -/
import Derived.Test.YtikdmnedbfpkeaaDoorPop
import Derived.Test.YtikdmnedbfpkeaaDoorApp
namespace Hy.Mk
open Go
def chunk (l : List Bool) (j : Nat) : List Bool := (l.drop (64 * j)).take 64
def wd (l : List Bool) (j : Nat) : Nat := Pop.word (chunk l j)
theorem chunk_le (l : List Bool) (j : Nat) : (chunk l j).length ≤ 64 := by unfold chunk; exact List.length_take_le _ _
theorem wd_lt (l : List Bool) (j : Nat) : wd l j < 18446744073709551616 := by
  have h1 := Pop.word_lt (chunk l j)
  have h2 : 2 ^ (chunk l j).length ≤ 2 ^ 64 := Nat.pow_le_pow_right (by decide) (chunk_le l j)
  unfold wd; omega
theorem chunk_len (l : List Bool) (i : Nat) (h : i ≤ l.length) : (chunk (l.take i) (i / 64)).length = i % 64 := by
  unfold chunk; simp only [List.length_take, List.length_drop]; omega
theorem chunk_at (l : List Bool) (i : Nat) (h : i < l.length) : chunk (l.take (i + 1)) (i / 64) = chunk (l.take i) (i / 64) ++ [l[i]] := by
  unfold chunk
  rw [List.take_succ_eq_append_getElem h, List.drop_append_of_le_length (by simp only [List.length_take]; omega)]
  have e1 : (((l.take i).drop (64 * (i / 64))) ++ [l[i]]).take 64 = ((l.take i).drop (64 * (i / 64))) ++ [l[i]] := List.take_of_length_le (by simp only [List.length_append, List.length_drop, List.length_take, List.length_cons, List.length_nil]; omega)
  have e2 : ((l.take i).drop (64 * (i / 64))).take 64 = (l.take i).drop (64 * (i / 64)) := List.take_of_length_le (by simp only [List.length_drop, List.length_take]; omega)
  rw [e1, e2]
theorem chunk_ne (l : List Bool) (i j : Nat) (h : i < l.length) (hj : j ≠ i / 64) : chunk (l.take (i + 1)) j = chunk (l.take i) j := by
  unfold chunk
  rcases Nat.lt_or_ge j (i / 64) with hlt | hge
  · rw [List.take_succ_eq_append_getElem h, List.drop_append_of_le_length (by simp only [List.length_take]; omega), List.take_append_of_le_length (by simp only [List.length_drop, List.length_take]; omega)]
  · have e1 : (l.take (i + 1)).drop (64 * j) = [] := List.drop_eq_nil_of_le (by simp only [List.length_take]; omega)
    have e2 : (l.take i).drop (64 * j) = [] := List.drop_eq_nil_of_le (by simp only [List.length_take]; omega)
    rw [e1, e2]
theorem wd_at (l : List Bool) (i : Nat) (h : i < l.length) : wd (l.take (i + 1)) (i / 64) = wd (l.take i) (i / 64) + l[i].toNat * 2 ^ (i % 64) := by
  unfold wd; rw [chunk_at l i h, Pop.word_snoc, chunk_len l i (by omega)]
theorem wd_room (l : List Bool) (i : Nat) (h : i ≤ l.length) : wd (l.take i) (i / 64) < 2 ^ (i % 64) := by
  unfold wd; have := Pop.word_lt (chunk (l.take i) (i / 64)); rwa [chunk_len l i h] at this
def rowW (W : Nat) (l : List Bool) : List Value := (List.range W).map fun j => .int .u64 (wd l j : Nat)
theorem rowW_len (W : Nat) (l : List Bool) : (rowW W l).length = W := by unfold rowW; simp
theorem rowW_get (W : Nat) (l : List Bool) (j : Nat) (h : j < W) : (rowW W l)[j]? = some (.int .u64 (wd l j : Nat)) := by unfold rowW; simp [h]
theorem rowW_nil (W : Nat) : rowW W [] = List.replicate W (.int .u64 0) := by
  unfold rowW
  apply List.ext_getElem <;> simp [wd, chunk, Pop.word]
theorem rowW_no (W : Nat) (l : List Bool) (i : Nat) (h : i < l.length) (hb : l[i] = false) : rowW W (l.take (i + 1)) = rowW W (l.take i) := by
  unfold rowW
  apply List.map_congr_left
  intro j _
  by_cases hj : j = i / 64
  · subst hj; rw [wd_at l i h, hb]; simp
  · unfold wd; rw [chunk_ne l i j h hj]
theorem rowW_yes (W : Nat) (l : List Bool) (i : Nat) (h : i < l.length) (hb : l[i] = true) : (rowW W (l.take i)).set (i / 64) (.int .u64 (wd (l.take i) (i / 64) + 2 ^ (i % 64) : Nat)) = rowW W (l.take (i + 1)) := by
  apply List.ext_getElem (by simp [rowW])
  intro j h1 h2
  rw [List.getElem_set]
  by_cases hj : i / 64 = j
  · subst hj
    rw [if_pos rfl]
    simp only [rowW, List.getElem_map, List.getElem_range]
    rw [wd_at l i h, hb]; simp
  · rw [if_neg hj]
    simp only [rowW, List.getElem_map, List.getElem_range]
    unfold wd; rw [chunk_ne l i j h (Ne.symm hj)]
def wordsL (l : List Bool) : List Nat := (List.range ((l.length + 63) / 64)).map (wd l)
theorem wordsL_len (l : List Bool) : (wordsL l).length = (l.length + 63) / 64 := by unfold wordsL; simp
theorem wordsL_lt (l : List Bool) : ∀ x ∈ wordsL l, x < 18446744073709551616 := fun x hx => by
  unfold wordsL at hx
  obtain ⟨j, _, rfl⟩ := List.mem_map.1 hx
  exact wd_lt l j
theorem u64s_words (l : List Bool) : u64s (wordsL l) = rowW ((l.length + 63) / 64) l := by unfold u64s wordsL rowW; rw [List.map_map]; rfl
theorem sum_to (l : List Bool) : ∀ W, (((List.range W).map (wd l)).map (Pop.pb 64)).sum = (l.take (64 * W)).count true
  | 0 => by simp
  | W + 1 => by
    rw [List.range_succ, List.map_append, List.map_append, List.sum_append, sum_to l W]
    simp only [List.map_cons, List.map_nil, List.sum_cons, List.sum_nil, Nat.add_zero]
    have e : l.take (64 * (W + 1)) = l.take (64 * W) ++ chunk l W := by
      unfold chunk; rw [Nat.mul_add, Nat.mul_one, List.take_add]
    rw [e, List.count_append, wd, Pop.pb_word _ _ (chunk_le l W)]
theorem sum_words (l : List Bool) : ((wordsL l).map Pop.o64).sum = l.count true := by
  rw [Pop.o64_eq]
  unfold wordsL
  rw [sum_to, List.take_of_length_le (by omega)]
theorem sum_take (L : List Nat) (k : Nat) (h : k < L.length) : ((L.take (k + 1)).map Pop.o64).sum = ((L.take k).map Pop.o64).sum + Pop.o64 L[k] := by
  rw [List.take_succ_eq_append_getElem h, List.map_append, List.sum_append]; simp
theorem sum_le (L : List Nat) : (L.map Pop.o64).sum ≤ 64 * L.length := by
  induction L with
  | nil => simp
  | cons x L ih => simp only [List.map_cons, List.sum_cons, List.length_cons]; have := Pop.o64_le x; omega
end Hy.Mk
