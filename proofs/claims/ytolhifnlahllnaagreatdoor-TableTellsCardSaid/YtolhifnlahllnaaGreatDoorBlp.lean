/- Marks as cells. No program in sight. -/
import Derived.Test.YtolhifnlahllnaaGreatDoorGen
namespace Hy
open Go Go.RowKit
def bls (l : List Bool) : List Value := l.map Value.bool
theorem bls_len (l : List Bool) : (bls l).length = l.length := List.length_map _
theorem bls_get (l : List Bool) (k : Nat) (h : k < l.length) : (bls l)[k]? = some (.bool l[k]) := by unfold bls; simp [h]
theorem Rd.bool {w : World} {A : Option Addr} {l : List Bool} (h : Rd w A (bls l)) (hp : 0 < l.length) :
    ∃ b o, A = some ⟨b, o, none⟩ ∧ b < w.heap.size ∧ ∀ k (hk : k < l.length), w.cell? ⟨b, o + k, none⟩ = some (.bool l[k]) := by
  obtain ⟨b, o, e, hb, hc⟩ := h (by rw [bls_len]; exact hp)
  exact ⟨b, o, e, hb, fun k hk => hc k _ (bls_get l k hk)⟩
end Hy
