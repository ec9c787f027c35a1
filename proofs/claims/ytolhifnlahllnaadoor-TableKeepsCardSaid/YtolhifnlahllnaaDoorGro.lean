/- 'World.grownBy' with one block: all other blocks as they were. -/
import Derived.Test.YtolhifnlahllnaaDoorApp
namespace Hy
open Go Go.RowKit
abbrev But (g : Nat) (w w' : World) : Prop := w.grownBy w' (some g)
variable {w w' w'' : World} {g : Nat}
theorem but_refl (g : Nat) (w : World) : But g w w := ⟨rfl, rfl, rfl, Nat.le_refl _, fun _ _ _ => rfl⟩
theorem But.ext (h : But g w w') (k : Ext w' w'') : But g w w'' :=
  ⟨k.os.trans h.os, k.tape.trans h.tape, k.output.trans h.output, Nat.le_trans h.size k.size, fun i hi hn => (k.block i (Nat.lt_of_lt_of_le hi h.size)).trans (h.block i hi hn)⟩
theorem But.new (h : But g w w') (o : Obj) : But g w (w'.alloc o) := h.ext ((ext_refl w').new o)
theorem But.draws (h : But g w w') (n : Nat) : But g w (w'.drewN n) := ⟨h.os, h.tape, h.output, h.size, h.block⟩
theorem But.put (h : But g w w') (p : Addr) (hp : p.block = g ∨ w.heap.size ≤ p.block) (u : Value) : But g w (w'.setCell p u) := by
  have hb := fun i (hi : i ≠ p.block) => Below.heap_setCell w' p u i hi
  have hs : (w'.setCell p u).heap.size = w'.heap.size := by
    unfold World.setCell; split <;> simp
  refine ⟨?_, ?_, ?_, by rw [hs]; exact h.size, fun i hi hn => ?_⟩
  · rw [show (w'.setCell p u).os = w'.os from by unfold World.setCell; split <;> rfl]; exact h.os
  · rw [show (w'.setCell p u).tape = w'.tape from by unfold World.setCell; split <;> rfl]; exact h.tape
  · rw [show (w'.setCell p u).output = w'.output from by unfold World.setCell; split <;> rfl]; exact h.output
  · rw [hb i (fun e => by
      rcases hp with hp | hp
      · exact hn (by rw [e, hp])
      · omega)]
    exact h.block i hi hn
theorem But.below (h : But g w w') {base : Nat} (hg : base ≤ g) (hw : base ≤ w.heap.size) : Below base w w' :=
  ⟨h.os, h.tape, h.output, h.size, fun k hk => h.block k (by omega) (by intro e; injection e with e; omega)⟩
theorem own_but {base : Nat} {e : TypeId} {size : Nat} {v : Value} {n : Nat} {xs : List Value} (h : w.ownsRow base e size v n xs) (hx : But g w w') (hg : g < base) : w'.ownsRow base e size v n xs := by
  refine ⟨h.1, ?_⟩
  rcases h.2 with h | ⟨b, cap, cur, hv, hb, hgg, r⟩
  · exact .inl h
  · refine .inr ⟨b, cap, cur, hv, hb, ?_, r⟩
    have hlt : b < w.heap.size := by
      rcases Nat.lt_or_ge b w.heap.size with hlt | hge
      · exact hlt
      · rw [Array.getElem?_eq_none hge] at hgg; cases hgg
    rw [hx.block b hlt (by intro e; injection e with e; omega)]; exact hgg
end Hy
