/- lists of texts: as cells, opened, one. No program in sight. -/
import Derived.Test.YtolhifnlahllnaaDoorApp
namespace Hy
open Go Go.RowKit
/-- texts as cells -/
def txs (l : List (List UInt8)) : List Value := l.map fun b => Value.string ⟨b.toArray⟩
theorem txs_len (l : List (List UInt8)) : (txs l).length = l.length := by simp [txs]
theorem txs_one (l : List (List UInt8)) : ∀ u ∈ txs l, u.oneCell' = true := fun u hu => by
  obtain ⟨_, _, rfl⟩ := List.mem_map.1 hu; rfl
theorem txs_app (l m : List (List UInt8)) : txs (l ++ m) = txs l ++ txs m := by simp [txs]
theorem txs_get (l : List (List UInt8)) (k : Nat) (h : k < l.length) : (txs l)[k]? = some (.string ⟨l[k].toArray⟩) := by simp [txs, h]
theorem Rd.texts {w : World} {A : Option Addr} {l : List (List UInt8)} (h : Rd w A (txs l)) (k : Nat) (hk : k < l.length) :
    ∃ b o, A = some ⟨b, o, none⟩ ∧ b < w.heap.size ∧ ∀ j (hj : j < l.length), w.cell? ⟨b, o + j, none⟩ = some (.string ⟨l[j].toArray⟩) := by
  obtain ⟨b, o, e, hb, hc⟩ := h (by rw [txs_len]; omega)
  exact ⟨b, o, e, hb, fun j hj => hc j _ (txs_get l j hj)⟩
def sameTexts (a b : List (List UInt8)) : Bool := decide (a = b)
theorem take_step {α : Type} (a b : List α) (k : Nat) (h1 : k < a.length) (h2 : k < b.length) (ht : a.take k = b.take k) (e : a[k] = b[k]) : a.take (k + 1) = b.take (k + 1) := by
  rw [List.take_succ_eq_append_getElem h1, List.take_succ_eq_append_getElem h2, ht, e]
/-- a list of texts in new memory, and an error -/
def TextsOut (l : List (List UInt8)) (err : Nat) (w : World) (e : Ending) (w' : World) : Prop := ∃ A cap, e = .returned (.tuple #[.slice A l.length cap, .int .i64 err]) ∧ Rd w' A (txs l) ∧ Ext w w'
end Hy
