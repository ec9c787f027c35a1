/- A slice that reads and has no address is empty. No program in sight. -/
import Derived.Test.YtdblegdbfdhepaaBase
namespace Hy
open Go
theorem Rd.nil_of {w : World} {A : Option Addr} {cs : List Value} {n : Nat} (h : Rd w A cs) (hl : cs.length = n) (hA : A = none) : n = 0 := by
  rcases Nat.eq_zero_or_pos n with h0 | h0
  · exact h0
  · obtain ⟨b, o, e, _⟩ := h (by omega)
    rw [hA] at e; cases e
end Hy
