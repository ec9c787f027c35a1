/- Cells of columns: plain words and laws. No program in sight. Cells: plain words: as values, as cells; what is wrong with one, with a column. No program in sight. Rows of cells that stand in a list: where they lie, what they are. No program in sight. -/
import Derived.Test.YtolhifnlahllnaaGreatDoorGen
import Derived.Lib.Bytealg
import Derived.Lib.Small
import Derived.Laws.Closers25b
section
namespace Hy
/-- a cell: its kind, its number, its text -/
abbrev Cel := Int × Nat × ByteArray
namespace Cel
def bl (s : ByteArray) : List Nat := s.data.toList.map UInt8.toNat
theorem bl_len (s : ByteArray) : (bl s).length = s.size := by rw [bl, List.length_map, Array.length_toList]; rfl
theorem bl_inj {s t : ByteArray} (h : bl s = bl t) : s = t := by
  apply ByteArray.ext; apply Array.ext'
  exact (List.map_inj_right (fun a b h => UInt8.toNat.inj h)).1 h
def tless (s t : ByteArray) : Bool := numsLess (bl s) (bl t)
/-- is a less than b? What is not there is less than what is. -/
@[irreducible] def less (a b : Cel) : Bool :=
  if a.1 = 0 ∧ b.1 ≠ 0 then true else if b.1 = 0 ∧ a.1 ≠ 0 then false else if a.1 ≠ b.1 then decide (a.1 < b.1) else if a.2.1 ≠ b.2.1 then decide (a.2.1 < b.2.1) else tless a.2.2 b.2.2
theorem cmpB (a b : List UInt8) : (Go.Lib.compareBytes a b < 0) = (numsLess (a.map UInt8.toNat) (b.map UInt8.toNat) = true) := by
  induction a generalizing b with
  | nil => cases b <;> simp [Go.Lib.compareBytes, numsLess]
  | cons x a ih =>
    cases b with
    | nil => simp [Go.Lib.compareBytes, numsLess]
    | cons y b =>
      have e1 : (x < y) = (x.toNat < y.toNat) := by rw [UInt8.lt_iff_toNat_lt]
      have e2 : (y < x) = (y.toNat < x.toNat) := by rw [UInt8.lt_iff_toNat_lt]
      simp only [Go.Lib.compareBytes, e1, e2, List.map_cons, numsLess]
      by_cases h1 : x.toNat < y.toNat
      · simp [h1]
      · by_cases h2 : y.toNat < x.toNat
        · have : x.toNat ≠ y.toNat := by omega
          simp [h1, h2, this]
        · have : x.toNat = y.toNat := by omega
          simp [this, ih]
theorem cmpB_bd (a b : List UInt8) : -1 ≤ Go.Lib.compareBytes a b ∧ Go.Lib.compareBytes a b ≤ 1 := by
  induction a generalizing b with
  | nil => cases b <;> simp [Go.Lib.compareBytes]
  | cons x a ih =>
    cases b with
    | nil => simp [Go.Lib.compareBytes]
    | cons y b =>
      simp only [Go.Lib.compareBytes]
      split
      · simp
      · split
        · simp
        · exact ih b
def or3 (x y z : Int) : Int := if x ≠ 0 then x else if y ≠ 0 then y else z
/-- Order: of two cells -/
def ord (a b : Cel) : Int := if decide (a.1 ≠ 0) ≠ decide (b.1 ≠ 0) then (if a.1 ≠ 0 then 1 else -1) else or3 (Go.Lib.compareInt a.1 b.1) (Go.Lib.compareInt (a.2.1 : Nat) (b.2.1 : Nat)) (Go.Lib.compareBytes a.2.2.data.toList b.2.2.data.toList)
theorem ord_less (a b : Cel) : decide (ord a b < 0) = less a b := by
  obtain ⟨k, n, s⟩ := a
  obtain ⟨k', n', s'⟩ := b
  unfold less ord or3 tless bl Go.Lib.compareInt
  have hB := cmpB s.data.toList s'.data.toList
  by_cases h0 : k = 0 <;> by_cases h1 : k' = 0 <;> simp only [h0, h1, ne_eq, not_true_eq_false, not_false_eq_true, and_true, and_false, if_true, if_false, decide_true, decide_false, Bool.true_eq_false, Bool.false_eq_true] <;> first | rfl | skip
  · by_cases h2 : n < n'
    · simp [h2, show ¬ n = n' by omega]
    · by_cases h3 : n' < n
      · have : ¬ n = n' := by omega
        have h4 : ¬ n < n' := by omega
        simp [h3, this, h4]
      · have : n = n' := by omega
        subst this
        simp [hB]
  · by_cases hk : k < k'
    · simp [hk, show ¬ k = k' by omega]
    · by_cases hk2 : k' < k
      · have : ¬ k = k' := by omega
        simp [hk, hk2, this]
      · have : k = k' := by omega
        subst this
        by_cases h2 : n < n'
        · simp [h2, show ¬ n = n' by omega]
        · by_cases h3 : n' < n
          · have : ¬ n = n' := by omega
            have h4 : ¬ n < n' := by omega
            simp [h3, this, h4]
          · have : n = n' := by omega
            subst this
            simp [hB]
/-! the order -/
theorem numsLess_irrefl (a : List Nat) : numsLess a a = false := by
  induction a with
  | nil => rfl
  | cons x a ih => simp [numsLess, ih]
theorem numsLess_trans : ∀ (a b c : List Nat), numsLess a b = true → numsLess b c = true → numsLess a c = true
  | _, _, [], _, h => by cases h' : (‹List Nat› : List Nat) <;> simp_all [numsLess]
  | [], _, _ :: _, _, _ => rfl
  | a :: x, [], _ :: _, h, _ => by simp [numsLess] at h
  | a :: x, b :: y, c :: z, h1, h2 => by
    simp only [numsLess, Bool.or_eq_true, Bool.and_eq_true, decide_eq_true_eq] at h1 h2 ⊢
    rcases h1 with h1 | ⟨h1, h1'⟩
    · rcases h2 with h2 | ⟨h2, _⟩ <;> (left; omega)
    · rcases h2 with h2 | ⟨h2, h2'⟩
      · left; omega
      · right; exact ⟨by omega, numsLess_trans x y z h1' h2'⟩
theorem numsLess_total : ∀ (a b : List Nat), a ≠ b → numsLess a b = true ∨ numsLess b a = true
  | [], [], h => absurd rfl h
  | [], _ :: _, _ => .inl rfl
  | _ :: _, [], _ => .inr rfl
  | a :: x, b :: y, h => by
    simp only [numsLess, Bool.or_eq_true, Bool.and_eq_true, decide_eq_true_eq]
    by_cases e : a = b
    · subst e
      have : x ≠ y := fun h' => h (by rw [h'])
      rcases numsLess_total x y this with h' | h'
      · left; right; exact ⟨rfl, h'⟩
      · right; right; exact ⟨rfl, h'⟩
    · rcases Nat.lt_or_ge a b with h' | h'
      · left; left; exact h'
      · right; left; omega
theorem less_irrefl (a : Cel) : less a a = false := by
  unfold less tless
  rw [if_neg (by rintro ⟨h, h'⟩; exact h' h), if_neg (by rintro ⟨h, h'⟩; exact h' h), if_neg (by simp), if_neg (by simp), numsLess_irrefl]
theorem less_total (a b : Cel) (h : a ≠ b) : less a b = true ∨ less b a = true := by
  obtain ⟨k, n, s⟩ := a
  obtain ⟨k', n', s'⟩ := b
  unfold less tless
  have hT : n = n' → k = k' → tless s s' = true ∨ tless s' s = true := fun e1 e2 => numsLess_total _ _ fun e => h (by rw [bl_inj e, e1, e2])
  unfold tless at hT
  simp only
  by_cases h0 : k = 0 ∧ k' ≠ 0
  · rw [if_pos h0]; exact .inl rfl
  · by_cases h1 : k' = 0 ∧ k ≠ 0
    · right; rw [if_pos h1]
    · rw [if_neg h0, if_neg h1, if_neg h1, if_neg h0]
      by_cases hk : k = k'
      · rw [if_neg (show ¬ k ≠ k' from fun h => h hk), if_neg (show ¬ k' ≠ k from fun h => h hk.symm)]
        by_cases hn : n = n'
        · rw [if_neg (show ¬ n ≠ n' from fun h => h hn), if_neg (show ¬ n' ≠ n from fun h => h hn.symm)]
          exact hT hn hk
        · rw [if_pos (show n ≠ n' from hn), if_pos (show n' ≠ n from fun h => hn h.symm), decide_eq_true_eq, decide_eq_true_eq]; omega
      · rw [if_pos (show k ≠ k' from hk), if_pos (show k' ≠ k from fun h => hk h.symm), decide_eq_true_eq, decide_eq_true_eq]; omega
theorem less_trans (a b c : Cel) (h1 : less a b = true) (h2 : less b c = true) : less a c = true := by
  obtain ⟨k, n, s⟩ := a
  obtain ⟨k', n', s'⟩ := b
  obtain ⟨k'', n'', s''⟩ := c
  unfold less tless at *
  have hT := numsLess_trans (bl s) (bl s') (bl s'')
  simp only at h1 h2 ⊢
  repeat' split at h1
  all_goals first | (cases h1; done) | skip
  all_goals repeat' split at h2
  all_goals first | (cases h2; done) | skip
  all_goals repeat' split
  all_goals first | rfl | (exact hT h1 h2) | (simp only [decide_eq_true_eq] at *; omega) | (exfalso; (try simp only [decide_eq_true_eq] at *); omega)
end Cel
end Hy
end
section
namespace Hy
open Go
abbrev celV (c : Cel) : Value := .agg #[.int .i64 c.1, .int .u64 (c.2.1 : Nat), .string c.2.2]
abbrev celA (c : Cel) : Array Value := #[.int .i64 c.1, .int .u64 (c.2.1 : Nat), .string c.2.2]
end Hy
namespace Hy.Cel
/-- what is wrong with a cell of a kind -/
@[irreducible] def alone (kind : Int) (c : Cel) : Nat :=
  if c.1 ≠ 0 ∧ c.1 ≠ kind then 7 else if (c.1 ≠ 1 ∧ c.2.1 ≠ 0) ∨ (c.1 ≠ 2 ∧ c.2.2.size ≠ 0) then 1 else if 16 < c.2.2.size then 2 else 0
end Hy.Cel
namespace Hy.Cel
theorem emptyB (s : ByteArray) : s.toList.isEmpty = decide (s.size = 0) := by
  have h := Go.toList_nil_iff_emptyBytes s
  by_cases e : s.toList = []
  · have := h.1 e
    subst this
    rw [e]; rfl
  · have h2 : ¬ s.size = 0 := fun h0 => e (h.2 (by apply ByteArray.ext; apply Array.eq_empty_of_size_eq_zero; exact h0))
    simp [h2, e]
end Hy.Cel
namespace Hy
open Go Go.RowKit
def cel3 (c : Cel) : List Value := [.int .i64 c.1, .int .u64 (c.2.1 : Nat), .string c.2.2]
def cls (l : List Cel) : List Value := l.flatMap cel3
theorem cls_len (l : List Cel) : (cls l).length = l.length * 3 := flat_length (f := cel3) (m := 3) (fun _ => rfl) l
theorem cls_one (l : List Cel) : ∀ u ∈ cls l, u.oneCell' = true := fun u hu => by
  obtain ⟨a, _, h⟩ := List.mem_flatMap.1 hu
  simp only [cel3, List.mem_cons, List.not_mem_nil, or_false] at h
  rcases h with rfl | rfl | rfl <;> rfl
theorem cls_app (l m : List Cel) : cls (l ++ m) = cls l ++ cls m := by simp [cls]
theorem Rd.cels {w : World} {A : Option Addr} {l : List Cel} (h : Rd w A (cls l)) (k : Nat) (hk : k < l.length) :
    ∃ b o, A = some ⟨b, o, none⟩ ∧ b < w.heap.size ∧ ∀ j (hj : j < l.length), w.cell? ⟨b, o + j * 3, none⟩ = some (.int .i64 l[j].1) ∧ w.cell? ⟨b, o + j * 3 + 1, none⟩ = some (.int .u64 (l[j].2.1 : Nat)) ∧ w.cell? ⟨b, o + j * 3 + 2, none⟩ = some (.string l[j].2.2) := by
  obtain ⟨b, o, e, hb, hc⟩ := h (by rw [cls_len]; omega)
  refine ⟨b, o, e, hb, fun j hj => ⟨?_, ?_, ?_⟩⟩
  · exact hc _ _ (flat_get (f := cel3) (m := 3) (fun _ => rfl) l j hj 0 (by decide))
  · rw [Nat.add_assoc]; exact hc _ _ (flat_get (f := cel3) (m := 3) (fun _ => rfl) l j hj 1 (by decide))
  · rw [Nat.add_assoc]; exact hc _ _ (flat_get (f := cel3) (m := 3) (fun _ => rfl) l j hj 2 (by decide))
namespace Cel
def bad (kind : Int) : List Cel → Nat
  | [] => 0
  | c :: r => if alone kind c = 0 then bad kind r else alone kind c
@[irreducible] def cchk (kind : Int) (l : List Cel) : Nat := if kind ≠ 1 ∧ kind ≠ 2 then 7 else if 64 < l.length then 2 else bad kind l
theorem alone_le (kind : Int) (c : Cel) : alone kind c ≤ 7 := by unfold alone; (repeat' split) <;> omega
theorem bad_le (kind : Int) (l : List Cel) : bad kind l ≤ 7 := by
  induction l with
  | nil => simp [bad]
  | cons c r ih => simp only [bad]; split; exact ih; exact alone_le _ _
theorem cchk_le (kind : Int) (l : List Cel) : cchk kind l ≤ 7 := by unfold cchk; (repeat' split) <;> first | omega | exact bad_le _ _
theorem bad_at {kind : Int} {l : List Cel} {k : Nat} (h : k < l.length) (ha : alone kind l[k] ≠ 0) : bad kind (l.drop k) = alone kind l[k] := by
  rw [List.drop_eq_getElem_cons h]; simp [bad, ha]
theorem bad_next {kind : Int} {l : List Cel} {k : Nat} (h : k < l.length) (ha : alone kind l[k] = 0) : bad kind (l.drop k) = bad kind (l.drop (k + 1)) := by
  rw [List.drop_eq_getElem_cons h]; simp [bad, ha]
end Cel
end Hy
end
section
namespace Hy
open Go Go.RowKit
section
variable {w w' : World}
abbrev Rw := (Option Addr × Nat × Nat) × List Cel
def rw1 (x : Rw) : List Value := [.slice x.1.1 x.1.2.1 x.1.2.2]
/-- a row is read where it lies -/
def RwOk (w : World) (x : Rw) : Prop := x.2.length = x.1.2.1 ∧ x.1.2.1 ≤ x.1.2.2 ∧ (x.1.1 = none → x.1.2.1 = 0) ∧ Rd w x.1.1 (cls x.2)
/-- rows as cells -/
def rws' (L : List Rw) : List Value := L.flatMap rw1
theorem rws_len (L : List Rw) : (rws' L).length = L.length := by have := flat_length (f := rw1) (m := 1) (fun _ => rfl) L; rw [Nat.mul_one] at this; exact this
theorem rws_one (L : List Rw) : ∀ u ∈ rws' L, u.oneCell' = true := fun u hu => by
  obtain ⟨c, _, h⟩ := List.mem_flatMap.1 hu
  simp only [rw1, List.mem_cons, List.not_mem_nil, or_false] at h
  subst h; rfl
theorem Rd.rows {w : World} {A : Option Addr} {L : List Rw} (h : Rd w A (rws' L)) (k : Nat) (hk : k < L.length) :
    ∃ b o, A = some ⟨b, o, none⟩ ∧ b < w.heap.size ∧ ∀ j (hj : j < L.length), w.cell? ⟨b, o + j, none⟩ = some (.slice L[j].1.1 L[j].1.2.1 L[j].1.2.2) := by
  obtain ⟨b, o, e, hb, hc⟩ := h (by rw [rws_len]; omega)
  refine ⟨b, o, e, hb, fun j hj => ?_⟩
  have h1 := flat_get (f := rw1) (m := 1) (fun _ => rfl) L j hj 0 (by decide)
  rw [Nat.mul_one, Nat.add_zero] at h1
  exact hc j _ (h1.trans rfl)
theorem RwOk.keep {w w' : World} {x : Rw} (h : RwOk w x) (hx : Ext w w') : RwOk w' x := ⟨h.1, h.2.1, h.2.2.1, h.2.2.2.keep hx⟩
end
end Hy
end
