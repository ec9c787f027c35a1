/- Files: plain words: entries, nodes, what is wrong with a file system. No program in sight. -/
import Derived.Test.YtolhifnlahllnaaGreatDoorPlx
import Derived.Test.YtolhifnlahllnaaGreatDoorTna
namespace Hy
open Go Go.RowKit
/-- an entry: its name, its node -/
abbrev Ent := ByteArray × Int
/-- a node: what it has now, what it has for good -/
abbrev Nod := ByteArray × ByteArray
def ent2 (x : Ent) : List Value := [.string x.1, .int .i64 x.2]
def ens (l : List Ent) : List Value := l.flatMap ent2
theorem ens_len (l : List Ent) : (ens l).length = l.length * 2 := flat_length (f := ent2) (m := 2) (fun _ => rfl) l
theorem ens_one (l : List Ent) : ∀ u ∈ ens l, u.oneCell' = true := fun u hu => by
  obtain ⟨c, _, h⟩ := List.mem_flatMap.1 hu
  simp only [ent2, List.mem_cons, List.not_mem_nil, or_false] at h
  rcases h with rfl | rfl <;> rfl
theorem ens_app (l m : List Ent) : ens (l ++ m) = ens l ++ ens m := by simp [ens]
def nod2 (x : Nod) : List Value := [.string x.1, .string x.2]
def nds (l : List Nod) : List Value := l.flatMap nod2
theorem nds_len (l : List Nod) : (nds l).length = l.length * 2 := flat_length (f := nod2) (m := 2) (fun _ => rfl) l
theorem nds_one (l : List Nod) : ∀ u ∈ nds l, u.oneCell' = true := fun u hu => by
  obtain ⟨c, _, h⟩ := List.mem_flatMap.1 hu
  simp only [nod2, List.mem_cons, List.not_mem_nil, or_false] at h
  rcases h with rfl | rfl <;> rfl
theorem nds_app (l m : List Nod) : nds (l ++ m) = nds l ++ nds m := by simp [nds]
theorem Rd.ents {w : World} {A : Option Addr} {l : List Ent} (h : Rd w A (ens l)) (k : Nat) (hk : k < l.length) :
    ∃ b o, A = some ⟨b, o, none⟩ ∧ b < w.heap.size ∧ ∀ j (hj : j < l.length), w.cell? ⟨b, o + j * 2, none⟩ = some (.string l[j].1) ∧ w.cell? ⟨b, o + j * 2 + 1, none⟩ = some (.int .i64 l[j].2) := by
  obtain ⟨b, o, e, hb, hc⟩ := h (by rw [ens_len]; omega)
  have H : ∀ j (hj : j < l.length) i (hi : i < 2) u, (ent2 l[j])[i]? = some u → w.cell? ⟨b, o + (j * 2 + i), none⟩ = some u := fun j hj i hi u hu => hc _ _ ((flat_get (f := ent2) (m := 2) (fun _ => rfl) l j hj i hi).trans hu)
  refine ⟨b, o, e, hb, fun j hj => ⟨?_, ?_⟩⟩
  · exact H j hj 0 (by decide) _ rfl
  · rw [Nat.add_assoc]; exact H j hj 1 (by decide) _ rfl
theorem Rd.nodes {w : World} {A : Option Addr} {l : List Nod} (h : Rd w A (nds l)) (k : Nat) (hk : k < l.length) :
    ∃ b o, A = some ⟨b, o, none⟩ ∧ b < w.heap.size ∧ ∀ j (hj : j < l.length), w.cell? ⟨b, o + j * 2, none⟩ = some (.string l[j].1) ∧ w.cell? ⟨b, o + j * 2 + 1, none⟩ = some (.string l[j].2) := by
  obtain ⟨b, o, e, hb, hc⟩ := h (by rw [nds_len]; omega)
  have H : ∀ j (hj : j < l.length) i (hi : i < 2) u, (nod2 l[j])[i]? = some u → w.cell? ⟨b, o + (j * 2 + i), none⟩ = some u := fun j hj i hi u hu => hc _ _ ((flat_get (f := nod2) (m := 2) (fun _ => rfl) l j hj i hi).trans hu)
  refine ⟨b, o, e, hb, fun j hj => ⟨?_, ?_⟩⟩
  · exact H j hj 0 (by decide) _ rfl
  · rw [Nat.add_assoc]; exact H j hj 1 (by decide) _ rfl
end Hy
namespace Hy.Fs
/-- does a list name a node? -/
def nmd (l : List Ent) (i : Int) : Bool := l.any fun x => x.2 == i
theorem nmd_at {l : List Ent} {k : Nat} (h : k < l.length) {i : Int} (he : l[k].2 = i) : nmd l i = true := by
  unfold nmd; rw [List.any_eq_true]; exact ⟨_, List.getElem_mem h, by rw [he]; simp⟩
theorem nmd_no {l : List Ent} {i : Int} (h : ∀ k (hk : k < l.length), l[k].2 ≠ i) : nmd l i = false := by
  unfold nmd
  rw [List.any_eq_false]
  intro x hx
  obtain ⟨k, hk, rfl⟩ := List.getElem_of_mem hx
  simpa using h k hk
/-- the name of the last one is not less -/
def notUp (pre : List Ent) (x : Ent) : Bool := match pre.getLast? with
  | some y => !decide (y.1.data.toList < x.1.data.toList)
  | none => false
/-- what is wrong with entries behind others -/
def dck (n : Int) (pre : List Ent) : List Ent → Nat
  | [] => 0
  | x :: r => if Nm.nm x.1.data.toList = false then 1 else if notUp pre x then 4 else if x.2 < 0 ∨ n ≤ x.2 then 3 else if nmd pre x.2 then 6 else dck n (pre ++ [x]) r
/-- what is wrong with a directory of so many nodes -/
@[irreducible] def dirck (n : Int) (l : List Ent) : Nat := dck n [] l
theorem dck_le (n : Int) (pre l : List Ent) : dck n pre l ≤ 6 := by
  induction l generalizing pre with
  | nil => exact Nat.zero_le _
  | cons x r ih => simp only [dck]; (repeat' split) <;> first | omega | exact ih _
theorem dirck_le (n : Int) (l : List Ent) : dirck n l ≤ 6 := by unfold dirck; exact dck_le _ _ _
/-- the ways of an entry at a place -/
theorem dck_ways (n : Int) (l : List Ent) (k : Nat) (h : k < l.length) :
    (Nm.nm l[k].1.data.toList = false ∧ dck n (l.take k) (l.drop k) = 1) ∨
    (Nm.nm l[k].1.data.toList = true ∧ notUp (l.take k) l[k] = true ∧ dck n (l.take k) (l.drop k) = 4) ∨
    (Nm.nm l[k].1.data.toList = true ∧ notUp (l.take k) l[k] = false ∧ l[k].2 < 0 ∧ dck n (l.take k) (l.drop k) = 3) ∨
    (Nm.nm l[k].1.data.toList = true ∧ notUp (l.take k) l[k] = false ∧ 0 ≤ l[k].2 ∧ n ≤ l[k].2 ∧ dck n (l.take k) (l.drop k) = 3) ∨
    (Nm.nm l[k].1.data.toList = true ∧ notUp (l.take k) l[k] = false ∧ 0 ≤ l[k].2 ∧ l[k].2 < n ∧ nmd (l.take k) l[k].2 = true ∧ dck n (l.take k) (l.drop k) = 6) ∨
    (Nm.nm l[k].1.data.toList = true ∧ notUp (l.take k) l[k] = false ∧ 0 ≤ l[k].2 ∧ l[k].2 < n ∧ nmd (l.take k) l[k].2 = false ∧ dck n (l.take k) (l.drop k) = dck n (l.take (k + 1)) (l.drop (k + 1))) := by
  have e : dck n (l.take k) (l.drop k) = if Nm.nm l[k].1.data.toList = false then 1 else if notUp (l.take k) l[k] then 4 else if l[k].2 < 0 ∨ n ≤ l[k].2 then 3 else if nmd (l.take k) l[k].2 then 6 else dck n (l.take (k + 1)) (l.drop (k + 1)) := by
    rw [List.drop_eq_getElem_cons h, List.take_succ_eq_append_getElem h]; rfl
  rw [e]
  cases h1 : Nm.nm l[k].1.data.toList
  · exact .inl ⟨rfl, if_pos rfl⟩
  · rw [if_neg (by decide)]
    cases h2 : notUp (l.take k) l[k]
    · rw [if_neg (by decide)]
      by_cases h3 : l[k].2 < 0
      · exact .inr (.inr (.inl ⟨rfl, rfl, h3, if_pos (.inl h3)⟩))
      · by_cases h4 : n ≤ l[k].2
        · exact .inr (.inr (.inr (.inl ⟨rfl, rfl, by omega, h4, if_pos (.inr h4)⟩)))
        · rw [if_neg (by omega)]
          cases h5 : nmd (l.take k) l[k].2
          · exact .inr (.inr (.inr (.inr (.inr ⟨rfl, rfl, by omega, by omega, rfl, if_neg (by decide)⟩))))
          · exact .inr (.inr (.inr (.inr (.inl ⟨rfl, rfl, by omega, by omega, rfl, if_pos rfl⟩))))
    · exact .inr (.inl ⟨rfl, rfl, if_pos rfl⟩)
theorem notUp_zero (l : List Ent) (x : Ent) : notUp (l.take 0) x = false := rfl
theorem notUp_succ (l : List Ent) (j : Nat) (h : j < l.length) (x : Ent) : notUp (l.take (j + 1)) x = !decide (l[j].1.data.toList < x.1.data.toList) := by
  unfold notUp
  rw [List.take_succ_eq_append_getElem h, List.getLast?_append]
  rfl
end Hy.Fs
