/- Slices of slices, as equations of their run; what the parts read. No program in sight. -/
import Derived.Test.YtolhifnlahllnaaDoorApp
namespace Hy
open Go Go.RowKit
/-- where a slice begins that leaves out the first k elements of m cells each -/
def slF (A : Option Addr) (k cap m : Nat) : Option Addr := if cap = k then A else A.map (·.add (k * m))
theorem slF_zero (A : Option Addr) (cap m : Nat) : slF A 0 cap m = A := by
  unfold slF; split
  · rfl
  · cases A <;> simp [Addr.add]
section
variable {P : Program} {t e : TypeId} {m : Nat} (hu : P.underlying t = some (.slice e)) (hi : (P.info? e).map (·.size) = some m)
include hi in
theorem sl_size (w : World) : (Go.sizeOf e).run P w = .ok m w := by
  cases hq : P.info? e with
  | none => simp [hq] at hi
  | some i =>
    have : i.size = m := by simpa [hq] using hi
    simp [Go.sizeOf, typeInfo, hq, this]
include hu in
theorem sl_elem : P.underlying t = some (.slice (P.elem t)) := by
  have : P.elem t = e := by unfold Program.elem; rw [hu]
  rw [this]; exact hu
include hu hi
theorem sl_to (A : Option Addr) (len cap : Nat) (kd : IntKind) (k : Nat) (h : k ≤ cap) (w : World) :
    (Instr.sliceAt t (.slice A len cap) none (some (.int kd (k : Int))) none).run P w = .ok (.slice A k cap) w := by
  have he : P.elem t = e := by unfold Program.elem; rw [hu]
  have hu' := sl_elem hu
  rw [run_sliceAt_slice (h := hu'), run_slice_h (ht := hu') (h0 := by omega) (h2 := by omega), he, sl_size hi w]
  simp only [Result.andThen_ok, sliced, Int.toNat_natCast, Nat.zero_mul, Nat.sub_zero]
  congr 2
  split
  · rfl
  · cases A <;> simp [Addr.add]
theorem sl_from (A : Option Addr) (len cap : Nat) (kd : IntKind) (k : Nat) (h : k ≤ len) (w : World) :
    (Instr.sliceAt t (.slice A len cap) (some (.int kd (k : Int))) none none).run P w = .ok (.slice (slF A k cap m) (len - k) (cap - k)) w := by
  have he : P.elem t = e := by unfold Program.elem; rw [hu]
  have hu' := sl_elem hu
  rw [run_sliceAt_slice (h := hu'), run_slice_l (ht := hu') (h0 := by omega) (h1 := by omega), he, sl_size hi w]
  simp only [Result.andThen_ok, sliced, Int.toNat_natCast, slF]
theorem sl_mid (A : Option Addr) (len cap : Nat) (kd kd' : IntKind) (i j : Nat) (h : i ≤ j) (h' : j ≤ cap) (w : World) :
    (Instr.sliceAt t (.slice A len cap) (some (.int kd (i : Int))) (some (.int kd' (j : Int))) none).run P w = .ok (.slice (slF A i cap m) (j - i) (cap - i)) w := by
  have he : P.elem t = e := by unfold Program.elem; rw [hu]
  have hu' := sl_elem hu
  rw [run_sliceAt_slice (h := hu'), run_slice_lh (ht := hu') (h0 := by omega) (h1 := by omega) (h2 := by omega), he, sl_size hi w]
  simp only [Result.andThen_ok, sliced, Int.toNat_natCast, slF]
end
theorem Rd.pre {w : World} {A : Option Addr} {cs ds : List Value} (h : Rd w A (cs ++ ds)) : Rd w A cs := fun hp => by
  obtain ⟨b, o, e, hlt, hc⟩ := h (by simp; omega)
  refine ⟨b, o, e, hlt, fun j u hu => hc j u ?_⟩
  rw [List.getElem?_append_left (List.getElem?_eq_some_iff.1 hu).1]; exact hu
theorem Rd.take {α : Type} {f : α → List Value} {w : World} {A : Option Addr} {l : List α} (h : Rd w A (l.flatMap f)) (k : Nat) : Rd w A ((l.take k).flatMap f) := by
  have e : l.flatMap f = (l.take k).flatMap f ++ (l.drop k).flatMap f := by rw [← List.flatMap_append, List.take_append_drop]
  rw [e] at h
  exact h.pre
theorem flat_drop {α : Type} {f : α → List Value} {m : Nat} (hf : ∀ x, (f x).length = m) (l : List α) (k : Nat) : (l.flatMap f).drop (k * m) = (l.drop k).flatMap f := by
  induction l generalizing k with
  | nil => simp
  | cons x l ih =>
    cases k with
    | zero => simp
    | succ k =>
      rw [List.flatMap_cons, List.drop_append, List.drop_eq_nil_of_le (by rw [hf, Nat.succ_mul]; omega), hf, show (k + 1) * m - m = k * m from by rw [Nat.succ_mul]; omega, ih k]
      simp
theorem Rd.from {α : Type} {f : α → List Value} {m : Nat} (hf : ∀ x, (f x).length = m) {w : World} {A : Option Addr} {l : List α} (h : Rd w A (l.flatMap f)) (k cap : Nat) (hc : l.length ≤ cap) : Rd w (slF A k cap m) ((l.drop k).flatMap f) := fun hp => by
  have hk : k < l.length := by
    rcases Nat.lt_or_ge k l.length with h' | h'
    · exact h'
    · rw [List.drop_eq_nil_of_le h'] at hp; simp at hp
  have hpos : 0 < (l.flatMap f).length := by
    rw [← flat_drop hf, List.length_drop] at hp; omega
  obtain ⟨b, o, e, hlt, hcl⟩ := h hpos
  have hd := Rd.drop (w := w) (b := b) (o := o) (cs := l.flatMap f) (by rw [← e]; exact h) (k * m)
  rw [flat_drop hf] at hd
  unfold slF
  rw [if_neg (by omega), e]
  show ∃ b' o', some ((Addr.mk b o none).add (k * m)) = _ ∧ _
  rw [add_none]
  exact hd hp
end Hy
