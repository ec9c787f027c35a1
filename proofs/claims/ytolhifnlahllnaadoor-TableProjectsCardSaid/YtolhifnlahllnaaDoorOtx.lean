/- Arguments opened: lists of texts. No program in sight. -/
import Derived.Test.YtolhifnlahllnaaDoorOpn
import Derived.Test.YtolhifnlahllnaaDoorTxt
namespace Hy
open Go Go.RowKit Go.ChangeShapes Go.WideShapes Go.ChangeAt
section
variable {H : Type} {enc : TypeId × Value → H} {P : Program} {w : World} {base : Nat} {spare : Nat → Bool} {held : Bool}
/-- a datum that is a list of texts -/
def IsTexts (d : DataW H) (l : List (List UInt8)) : Prop := (d = .nil ∧ l = []) ∨ ∃ sp : List (DataW H), d = .slice (l.map fun b => .lit (.string b)) sp
theorem open_texts {t e : TypeId} (ht : P.underlying t = some (.slice e)) (he : P.underlying e = some .string) (hc : P.cellsOf e = 1)
    {r : Reach} {b0 : Nat} {v : Value} {d : DataW H} {ps : List MemPlace} (hv : Value.okWide P w r b0 t v) (h : DataW.Trod enc P w base spare held t v d ps) :
    ∃ (A : Option Addr) (len cap : Nat) (l : List (List UInt8)), v = .slice A len cap ∧ l.length = len ∧ len ≤ cap ∧ cap ≤ maxLen ∧ Rd w A (txs l) ∧ (∀ x ∈ l, x.length ≤ maxLen) ∧ IsTexts d l := by
  obtain ⟨a0, len0, cap0, rfl⟩ := okWide_slice ht hv
  obtain ⟨fuel, hf⟩ := h
  rcases open_strings ht he hc hf with ⟨hcs, hx⟩ | ⟨a, len, cap, zs, hcs, hb, hl, hm, hz, hx, hcell, hwf⟩
  · simp only [Value.cells, List.cons.injEq, Value.slice.injEq, and_true] at hcs
    obtain ⟨rfl, rfl, rfl⟩ := hcs
    simp only [Prod.mk.injEq] at hx
    exact ⟨none, 0, 0, [], rfl, rfl, Nat.le_refl _, Nat.zero_le _, (fun hp => absurd hp (by simp [txs])), (fun x hx => by cases hx), .inl ⟨hx.1, rfl⟩⟩
  · simp only [Value.cells, List.cons.injEq, Value.slice.injEq, and_true] at hcs
    obtain ⟨rfl, rfl, rfl⟩ := hcs
    simp only [Prod.mk.injEq] at hx
    have hlz : len0 ≤ zs.length := by rw [hz]; split <;> omega
    have hlen : ((zs.take len0).map fun s => s.data.toList).length = len0 := by simp; omega
    have hget : ∀ i (hi : i < zs.length), zs.getD i ByteArray.empty = zs[i] := fun i hi => by simp [hi]
    refine ⟨some a, len0, cap0, (zs.take len0).map fun s => s.data.toList, rfl, hlen, hl, hm, fun hpos => ?_, fun x hx => ?_, .inr ⟨strs (zs.drop len0), ?_⟩⟩
    · rw [txs_len, hlen] at hpos
      have h0 := hcell 0 (by omega)
      have hsp := spot_none h0 rfl
      refine ⟨a.block, a.off, ?_, ?_, fun j u hu => ?_⟩
      · obtain ⟨b, o, sp⟩ := a
        simp only at hsp
        subst hsp; rfl
      · have := block_lt_of_cell h0
        rw [add_mk a hsp] at this; exact this
      · have hj : j < len0 := by
          have := (List.getElem?_eq_some_iff.1 hu).1
          rw [txs_len, hlen] at this; exact this
        rw [txs_get _ _ (by rw [hlen]; exact hj)] at hu
        have h1 := hcell j (by omega)
        rw [add_mk a hsp] at h1
        rw [h1, hget j (by omega), ← hu]
        simp
    · obtain ⟨n, hn, rfl⟩ := List.mem_map.1 hx
      have := hwf n (List.mem_of_mem_take hn)
      rw [Array.length_toList]; exact this
    · rw [hx.1]
      congr 1
      unfold strs
      rw [List.map_map]
      rfl
theorem weightsAll_mem {e : TypeId} {l : List (DataW H)} {d : DataW H} {n : Nat} (hd : d ∈ l) (hn : n ∈ d.weights P e) : n ∈ DataW.weightsAll P e l := by
  induction l with
  | nil => cases hd
  | cons x r ih =>
    simp only [DataW.weightsAll, List.mem_append]
    rcases List.mem_cons.1 hd with rfl | hr
    · exact .inl hn
    · exact .inr (ih hr)
theorem sized_texts {ts : List TypeId} {ds : List (DataW H)} (h : (DataW.weightsEach P ts ds).all (· ≤ reachBytes) = true) {j : Nat} {t e : TypeId} {l : List (List UInt8)} {d : DataW H} (hu : P.underlying t = some (.slice e))
    (ht : ts[j]? = some t) (hd : ds[j]? = some d) (hl : IsTexts d l) : l.length * P.bytesOf e ≤ reachBytes ∧ ∀ x ∈ l, x.length ≤ reachBytes := by
  rcases hl with ⟨rfl, rfl⟩ | ⟨sp, rfl⟩
  · exact ⟨by simp, fun c hc => by cases hc⟩
  · have hall := List.all_eq_true.1 h
    refine ⟨?_, fun c hc => ?_⟩
    · have h1 := hall _ (DataW.weights_mem_each ht hd (((l.map fun b => DataW.lit (H := H) (.string b)).length + sp.length) * P.bytesOf e) (by simp [DataW.weights, hu]))
      simp only [decide_eq_true_eq, List.length_map] at h1
      exact Nat.le_trans (Nat.mul_le_mul_right _ (by omega)) h1
    · have h1 := hall c.length (DataW.weights_mem_each ht hd _ (by
        simp only [DataW.weights, hu, List.mem_cons, List.mem_append]
        exact .inr (.inl (weightsAll_mem (List.mem_map.2 ⟨c, hc, rfl⟩) (by simp [DataW.weights])))))
      simpa using h1
end
end Hy
