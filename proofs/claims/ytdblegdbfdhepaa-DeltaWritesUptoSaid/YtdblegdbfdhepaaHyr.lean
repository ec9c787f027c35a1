/- Hybrid: plain laws of the document's bytes: blocks filled up eight by eight. No program in sight. -/
import Derived.Test.YtdblegdbfdhepaaHyq
namespace Hy.Hyb
open Go
/-- so many of a list, noughts behind its end -/
def chunk (r : List Nat) (k : Nat) : List Nat := r.take k ++ List.replicate (k - r.length) 0
theorem chunk_zero (r : List Nat) : chunk r 0 = [] := by simp [chunk]
theorem chunk_in (r : List Nat) (k x : Nat) (h : r[k]? = some x) : chunk r (k + 1) = chunk r k ++ [x] := by
  have hk := (List.getElem?_eq_some_iff.1 h).1
  unfold chunk
  rw [List.take_add_one, h, show k + 1 - r.length = 0 by omega, show k - r.length = 0 by omega]; simp
theorem chunk_out (r : List Nat) (k : Nat) (h : r.length ≤ k) : chunk r (k + 1) = chunk r k ++ [0] := by
  unfold chunk
  rw [List.take_of_length_le h, List.take_of_length_le (by omega), show k + 1 - r.length = k - r.length + 1 by omega, List.replicate_succ', List.append_assoc]
theorem chunk_len (r : List Nat) (k : Nat) : (chunk r k).length = k := by
  simp only [chunk, List.length_append, List.length_take, List.length_replicate]; omega
theorem chunk_pad (o r : List Nat) (ho : o.length % 8 = 0) (h0 : r ≠ []) : pad o ++ chunk r 8 = pad (o ++ r.take 8) := by
  have := List.length_pos_iff.2 h0
  rw [pad_full o ho]
  unfold chunk pad
  rw [List.length_append, List.length_take, show (o.length + min 8 r.length + 7) / 8 * 8 - (o.length + min 8 r.length) = 8 - r.length by omega, List.append_assoc]
/-- the blocks so far, behind a list's first so many -/
def Open (l : List Nat) (at0 j : Nat) (B : List Nat) : Prop :=
  ∃ o, B = pad o ∧ parts [] (l.drop at0) = parts o (l.drop j) ∧ (o.length % 8 = 0 ∨ l.length ≤ j) ∧ (o = [] → j = at0) ∧ (∀ x ∈ o, x ∈ l) ∧ o.length ≤ l.length ∧ o.length + (l.drop j).length = (l.drop at0).length
theorem open_start (l : List Nat) (j : Nat) : Open l j j [] := ⟨[], by simp [pad], rfl, .inl rfl, fun _ => rfl, by simp, by simp, by simp⟩
theorem open_step {l : List Nat} {at0 j : Nat} {B : List Nat} (h : Open l at0 j B) (hj : j < l.length) (h8 : row (l.drop j) < 8) : Open l at0 (j + 8) (B ++ chunk (l.drop j) 8) := by
  obtain ⟨o, rfl, e, h1, h2, h3, h4, h5⟩ := h
  have hne : l.drop j ≠ [] := fun hh => by have := congrArg List.length hh; simp at this; omega
  have ho : o.length % 8 = 0 := h1.resolve_right (by omega)
  have htk : ((l.drop j).take 8).length = min 8 (l.length - j) := by simp
  have hdd : (l.drop j).drop 8 = l.drop (j + 8) := by rw [List.drop_drop]
  refine ⟨o ++ (l.drop j).take 8, chunk_pad o _ ho hne, ?_, ?_, ?_, ?_, ?_, ?_⟩
  · rw [e, ← hdd]
    cases hr : l.drop j with
    | nil => exact absurd hr hne
    | cons x r => rw [parts_blk o x r (by rw [← hr]; exact h8)]
  · rw [List.length_append, htk]; omega
  · intro hh; exact absurd (List.append_eq_nil_iff.1 hh).2 (fun hh => by have := congrArg List.length hh; rw [htk] at this; simp at this; omega)
  · intro x hx
    rcases List.mem_append.1 hx with hx | hx
    · exact h3 x hx
    · exact List.mem_of_mem_drop (List.mem_of_mem_take hx)
  · rw [List.length_append, htk]; simp only [List.length_drop] at h5; omega
  · rw [List.length_append, htk, List.length_drop]; simp only [List.length_drop] at h5 ⊢; omega
theorem open_len {l : List Nat} {at0 j : Nat} {B : List Nat} (h : Open l at0 j B) : B.length ≤ l.length + 7 ∧ B.length % 8 = 0 := by
  obtain ⟨o, rfl, _, _, _, _, h4, _⟩ := h
  rw [pad_len]; omega
theorem open_lt {l : List Nat} {at0 j : Nat} {B : List Nat} (h : Open l at0 j B) (k : Nat) (hl : ∀ x ∈ l, x < 2 ^ k) : ∀ x ∈ B, x < 2 ^ k := by
  obtain ⟨o, rfl, _, _, _, h3, _, _⟩ := h
  exact pad_lt o k (fun x hx => hl x (h3 x hx))
/-- where it ends: at the list's end, or where a row begins -/
theorem open_end {l : List Nat} {at0 j w : Nat} {B : List Nat} (h : Open l at0 j B) (h0 : j ≠ at0) (hj : j < l.length → 8 ≤ row (l.drop j)) :
    flat w (parts [] (l.drop at0)) = Vary.wr (B.length / 8 * 2 + 1) ++ Bits.packed B w ++ flat w (parts [] (l.drop j)) := by
  obtain ⟨o, rfl, e, h1, h2, h3, h4, h5⟩ := h
  have ho : o ≠ [] := fun hh => h0 (h2 hh)
  rw [e, show (pad o).length / 8 * 2 + 1 = 2 * (pad o).length / 8 + 1 by rw [pad_len]; omega, ← bytes_blk]
  rcases Nat.lt_or_ge j l.length with hlt | hge
  · cases hr : l.drop j with
    | nil => have := congrArg List.length hr; simp at this; omega
    | cons x r =>
      have h8 := hj hlt
      rw [hr] at h8
      rw [parts_run o x r h8, parts_run [] x r h8, shut_of o ho, shut_nil, List.nil_append, List.singleton_append, flat_cons]
  · rw [List.drop_eq_nil_of_le hge, parts_nil, parts_nil, shut_of o ho, shut_nil, flat_cons]
/-- a row -/
theorem flat_run (l : List Nat) (j w x : Nat) (hx : l[j]? = some x) (h8 : 8 ≤ row (l.drop j)) :
    flat w (parts [] (l.drop j)) = Vary.wr (2 * row (l.drop j)) ++ Bits.packed [x] w ++ flat w (parts [] (l.drop (j + row (l.drop j)))) := by
  obtain ⟨hj, rfl⟩ := List.getElem?_eq_some_iff.1 hx
  have e := List.drop_eq_getElem_cons hj
  have hp := parts_run [] l[j] (l.drop (j + 1)) (by rw [← e]; exact h8)
  rw [← e, List.drop_drop, shut_nil, List.nil_append] at hp
  rw [hp, flat_cons, bytes_run]
end Hy.Hyb
