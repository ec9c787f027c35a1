/- Arguments opened: lists of numbers. No program in sight. -/
import Derived.Test.YtolhifnlahllnaaDoorRowk
import Derived.Test.YtolhifnlahllnaaDoorApp
namespace Hy
open Go Go.RowKit Go.ChangeShapes Go.WideShapes Go.ChangeAt
theorem add_mk (a : Addr) (h : a.spot = none) (i : Nat) : a.add i = ⟨a.block, a.off + i, none⟩ := by
  obtain ⟨b, o, sp⟩ := a
  simp only at h
  subst h
  exact add_none b o i
theorem spot_none {w : World} {a : Addr} {i : Nat} {v : Value} (h : w.cell? (a.add i) = some v) : i = 0 → a.spot = none := by
  rintro rfl
  have e : a.add 0 = a := by unfold Addr.add; simp
  rw [e] at h
  unfold World.cell? at h
  split at h
  · split at h
    · cases h
    · rename_i hs; cases hh : a.spot with
      | none => rfl
      | some x => rw [hh] at hs; simp at hs
  · cases h
section
variable {H : Type} {enc : TypeId × Value → H} {P : Program} {w : World} {base : Nat} {spare : Nat → Bool} {held : Bool}
/-- a datum that is a list of numbers -/
def IsNums (d : DataW H) (l : List Nat) : Prop := (d = .nil ∧ l = []) ∨ ∃ sp : List (DataW H), d = .slice (l.map fun n : Nat => .lit (.int .u64 (n : Int))) sp
/-- a list of numbers that comes in -/
theorem open_nums {t e : TypeId} (ht : P.underlying t = some (.slice e)) (he : P.underlying e = some (.int .u64)) (hc : P.cellsOf e = 1)
    {r : Reach} {b0 : Nat} {v : Value} {d : DataW H} {ps : List MemPlace} (hv : Value.okWide P w r b0 t v) (h : DataW.Trod enc P w base spare held t v d ps) :
    ∃ (A : Option Addr) (len cap : Nat) (l : List Nat), v = .slice A len cap ∧ l.length = len ∧ len ≤ cap ∧ cap ≤ maxLen ∧ Rd w A (u64s l) ∧ (∀ x ∈ l, x < 18446744073709551616) ∧ IsNums d l := by
  obtain ⟨a0, len0, cap0, rfl⟩ := okWide_slice ht hv
  obtain ⟨fuel, hf⟩ := h
  rcases open_ints ht he hc hf with ⟨hcs, hx⟩ | ⟨a, len, cap, zs, hcs, hb, hl, hm, hz, hx, hcell, hwf⟩
  · simp only [Value.cells, List.cons.injEq, Value.slice.injEq, and_true] at hcs
    obtain ⟨rfl, rfl, rfl⟩ := hcs
    simp only [Prod.mk.injEq] at hx
    exact ⟨none, 0, 0, [], rfl, rfl, Nat.le_refl _, Nat.zero_le _, (fun hp => absurd hp (by simp [u64s])), (fun x hx => by cases hx), .inl ⟨hx.1, rfl⟩⟩
  · simp only [Value.cells, List.cons.injEq, Value.slice.injEq, and_true] at hcs
    obtain ⟨rfl, rfl, rfl⟩ := hcs
    simp only [Prod.mk.injEq] at hx
    have hlz : len0 ≤ zs.length := by rw [hz]; split <;> omega
    have hbd : ∀ n ∈ zs, 0 ≤ n ∧ n < 18446744073709551616 := fun n hn => by have := bounds_u64 (hwf n hn); omega
    have hlen : ((zs.take len0).map Int.toNat).length = len0 := by simp; omega
    have hget : ∀ i (hi : i < zs.length), zs.getD i 0 = zs[i] := fun i hi => by simp [hi]
    refine ⟨some a, len0, cap0, (zs.take len0).map Int.toNat, rfl, hlen, hl, hm, fun hpos => ?_, fun x hx => ?_, .inr ⟨lits .u64 (zs.drop len0), ?_⟩⟩
    · rw [u64s_len, hlen] at hpos
      have h0 := hcell 0 (by omega)
      have hsp := spot_none h0 rfl
      refine ⟨a.block, a.off, ?_, ?_, fun j u hu => ?_⟩
      · obtain ⟨b, o, sp⟩ := a
        simp only at hsp
        subst hsp; rfl
      · have := block_lt_of_cell h0
        rw [add_mk a hsp] at this; exact this
      · have hj : j < len0 := by
          have := (List.getElem?_eq_some_iff.1 hu).1
          rw [u64s_len, hlen] at this; exact this
        rw [u64s_get _ _ (by rw [hlen]; exact hj)] at hu
        have h1 := hcell j (by omega)
        rw [add_mk a hsp] at h1
        rw [h1, hget j (by omega), ← hu]
        simp only [List.getElem_map, List.getElem_take]
        rw [Int.toNat_of_nonneg (hbd _ (List.getElem_mem _)).1]
    · obtain ⟨n, hn, rfl⟩ := List.mem_map.1 hx
      have := hbd n (List.mem_of_mem_take hn)
      omega
    · rw [hx.1]
      congr 1
      unfold lits
      rw [List.map_map]
      apply List.map_congr_left
      intro n hn
      have := hbd n (List.mem_of_mem_take hn)
      simp only [Function.comp]
      rw [Int.toNat_of_nonneg this.1]
theorem sized_nums {ts : List TypeId} {ds : List (DataW H)} (h : (DataW.weightsEach P ts ds).all (· ≤ reachBytes) = true) {j : Nat} {t e : TypeId} {l : List Nat} {d : DataW H} (hu : P.underlying t = some (.slice e))
    (ht : ts[j]? = some t) (hd : ds[j]? = some d) (hl : IsNums d l) : l.length * P.bytesOf e ≤ reachBytes := by
  rcases hl with ⟨rfl, rfl⟩ | ⟨sp, rfl⟩
  · simp
  · have hall := List.all_eq_true.1 h
    have h1 := hall _ (DataW.weights_mem_each ht hd (((l.map fun n : Nat => DataW.lit (H := H) (.int .u64 (n : Int))).length + sp.length) * P.bytesOf e) (by simp [DataW.weights, hu]))
    simp only [decide_eq_true_eq, List.length_map] at h1
    exact Nat.le_trans (Nat.mul_le_mul_right _ (by omega)) h1
end
end Hy
