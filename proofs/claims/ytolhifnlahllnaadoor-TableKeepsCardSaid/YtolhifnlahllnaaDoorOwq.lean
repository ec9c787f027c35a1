/- Own rows: where they lie, what leaves them as they were; lists that are read, where others are written. No program in sight. -/
import Derived.Test.YtolhifnlahllnaaDoorCpm
import Derived.Test.YtolhifnlahllnaaDoorGro
import Derived.Test.YtolhifnlahllnaaDoorOws
namespace Hy
open Go Go.RowKit
theorem own_low' {w : World} {base base' : Nat} {e : TypeId} {size : Nat} {v : Value} {n : Nat} {xs : List Value} (h : w.ownsRow base' e size v n xs) (hb : base ≤ base') : w.ownsRow base e size v n xs := by
  refine ⟨h.1, ?_⟩
  rcases h.2 with h | ⟨g, cap, cur, hv, hg, r⟩
  · exact .inl h
  · exact .inr ⟨g, cap, cur, hv, Nat.le_trans hb hg, r⟩
theorem own_block_rng {w : World} {base : Nat} {e : TypeId} {size : Nat} {v : Value} {n : Nat} {xs : List Value} (h : w.ownsRow base e size v n xs) {b : Nat} (hb : v.ownBlock = some b) : base ≤ b ∧ b < w.heap.size := by
  rcases h.2 with ⟨rfl, _⟩ | ⟨g, cap, cur, rfl, hg, hh, _⟩
  · cases hb
  · injection hb with hb
    subst hb
    refine ⟨hg, ?_⟩
    rcases Nat.lt_or_ge g w.heap.size with hlt | hge
    · exact hlt
    · rw [Array.getElem?_eq_none hge] at hh; cases hh
theorem own_past {w : World} {base : Nat} {e : TypeId} {size : Nat} {v : Value} {n : Nat} {xs : List Value} (h : w.ownsRow base e size v n xs) {p : Addr} (hp : p.block < base) (u : Value) : (w.setCell p u).ownsRow base e size v n xs :=
  own_but h (But.put (but_refl p.block w) p (.inl rfl) u) hp
section
variable {w w' : World} {base : Nat} {e e' : TypeId} {size size' : Nat} {n n' : Nat} {xs ys : List Value}
theorem own_typed {v : Value} (h : w.ownsRow base e size v n xs) {b : Nat} (hb : v.ownBlock = some b) : ∃ cur, w.heap[b]? = some (.cells cur e (0, 0)) := by
  rcases h.2 with ⟨rfl, _⟩ | ⟨g, cap, cur, rfl, _, hg, _⟩
  · cases hb
  · injection hb with hb
    subst hb
    exact ⟨cur, hg⟩
theorem own_ne {v u : Value} {base' : Nat} (h : w.ownsRow base e size v n xs) (k : w.ownsRow base' e' size' u n' ys) (he : e ≠ e') : v.ownBlock = none ∨ v.ownBlock ≠ u.ownBlock := by
  cases hv : v.ownBlock with
  | none => exact .inl rfl
  | some b =>
    right
    intro hu
    obtain ⟨c1, h1⟩ := own_typed h hv
    obtain ⟨c2, h2⟩ := own_typed k hu.symm
    rw [h1] at h2
    injection h2 with h2
    injection h2 with _ h2
    exact he h2
theorem own_nblk {v : Value} {g : Nat} {t : TypeId} {cs : Array Value} (h : w.ownsRow base e size v n xs) (k : Blk w g t cs) (he : e ≠ t) : v.ownBlock ≠ some g := fun hv => by
  obtain ⟨c1, h1⟩ := own_typed h hv
  rw [show w.heap[g]? = _ from k] at h1
  injection h1 with h1
  injection h1 with _ h1
  exact he h1.symm
theorem size_new (w : World) (o : Obj) : w.heap.size ≤ (w.alloc o).heap.size := (Ext.new (ext_refl w) o).size
theorem size_put (w : World) (p : Addr) (u : Value) : (w.setCell p u).heap.size = w.heap.size := by unfold World.setCell; split <;> simp
theorem new_ne {a b : Option Nat} {g k m : Nat} (h : a = b ∨ a = some m) (hb : b ≠ some g) (hg : g < k) (hk : k ≤ m) : a ≠ some g := by
  rcases h with rfl | rfl
  · exact hb
  · intro e; have := Option.some.inj e; omega
theorem own_put {v : Value} (h : w.ownsRow base e size v n xs) {p : Addr} (hp : v.ownBlock ≠ some p.block) (u : Value) : (w.setCell p u).ownsRow base e size v n xs :=
  h.kept (But.put (but_refl p.block w) p (.inl rfl) u) (.inr hp)
end
def PA (p : Nat → Prop) (A : Option Addr) (n : Nat) : Prop := 0 < n → ∀ a, A = some a → p a.block
theorem own_PA {p : Nat → Prop} {w : World} {base : Nat} {e : TypeId} {size : Nat} {A : Option Addr} {n c : Nat} {xs : List Value} (h : w.ownsRow base e size (.slice A n c) n xs) (hp : ∀ b, base ≤ b → p b) : PA p A n := fun _ a ha => by
  subst ha
  exact hp _ (own_block_rng h rfl).1
theorem Rd.but {w : World} {A : Option Addr} {cs : List Value} (h : Rd w A cs) {a : Addr} (hne : 0 < cs.length → ∀ b, A = some b → b.block ≠ a.block) (u : Value) : Rd (w.setCell a u) A cs := fun hp => by
  obtain ⟨b, o, e, hb, hc⟩ := h hp
  refine ⟨b, o, e, by rw [size_put]; exact hb, fun j u' hu => ?_⟩
  exact (But.put (but_refl a.block w) a (.inl rfl) u).cell (hc j u' hu) (fun e' => hne hp _ e (Option.some.inj e'))
theorem Blk.grw {w w' : World} {g : Nat} {t : TypeId} {cs : Array Value} {row : Option Nat} (h : Blk w g t cs) (hg : w.grownBy w' row) (hne : row ≠ some g) : Blk w' g t cs := (hg.block g h.lt (Ne.symm hne)).trans h
theorem rd_grw {w w' : World} {A : Option Addr} {cs : List Value} {row : Option Nat} (h : Rd w A cs) (hg : w.grownBy w' row) (hne : ∀ a, A = some a → row ≠ some a.block) : Rd w' A cs := fun hp => by
  obtain ⟨b, o, e, hb, hc⟩ := h hp
  refine ⟨b, o, e, Nat.lt_of_lt_of_le hb hg.size, fun j u hu => ?_⟩
  have := hc j u hu
  unfold World.cell? at this ⊢
  rw [hg.block b hb (Ne.symm (hne _ e))]
  exact this
end Hy
