/- a cell of an own row set. -/
import Derived.Test.YtolhifnlahllnaaDoorApp
namespace Hy
open Go Go.RowKit
theorem own_set {w : World} {base : Nat} {e : TypeId} {size : Nat} {v : Value} {n : Nat} {xs : List Value} {g c : Nat} (h : w.ownsRow base e size v n xs) (hv : v = .slice (some ⟨g, 0, none⟩) n c) (i : Nat) (u : Value) :
    (w.setCell ⟨g, i, none⟩ u).ownsRow base e size v n (xs.set i u) := by
  refine ⟨by rw [List.length_set]; exact h.1, ?_⟩
  rcases h.2 with ⟨h, _⟩ | ⟨b, cap, cur, hv2, hb, hg, h1, h2, h3, h4⟩
  · rw [hv] at h; cases h
  · rw [hv] at hv2
    injection hv2 with ha _ hcap
    injection ha with ha
    injection ha with ha
    subst ha hcap
    have B : Blk w g e cur := hg
    refine .inr ⟨g, c, cur.setIfInBounds i u, hv, hb, B.set i u, h1, h2, by simpa using h3, ?_⟩
    rw [← h4, Array.toList_setIfInBounds, List.take_set]
end Hy
