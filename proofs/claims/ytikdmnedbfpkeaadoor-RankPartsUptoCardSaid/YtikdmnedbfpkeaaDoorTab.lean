/- The laid table of trailing zeros: from the row's condition to what the walks ask. -/
import Derived.Test.YtikdmnedbfpkeaaDoorRki
import Derived.Test.YtikdmnedbfpkeaaDoorRows
import Derived.ProofKit
import Derived.LaidMore
import Derived.OpenShut
import Derived.Stop.Joined
import Derived.Deep.DeepHandedRow
import Derived.Deep.DeepWitnessRowRef
namespace Go.Proofs.YtikdmnedbfpkeaaDoor
open Go.ChangeShapes Go.WideShapes Go.ChangeAt Go.WideMaps Go.WideElems Go.RowKit Hy
abbrev laidTab : List (String × DataW Unit) := [("math/bits.deBruijn64tab", Rows.laid_math_bits_deBruijn64tab)]
theorem gTab : Tryd.prog.globalNamed "math/bits.deBruijn64tab" = some 0 := by kernel_rfl
theorem tTab : (Tryd.prog.globals[0]?).map (·.type) = some 59 := by kernel_rfl
theorem door_met (os : Os) (args : Array Value) : laidMetH Tryd.prog laidTab ((World.doorLaid Tryd.prog 400 os).forCall (fun _ _ => 0) ⟨#[], args, []⟩).memory :=
  laidMetH_of_parts3 (fuel := 8) (laidMet_of_run' 8 (by kernel_rfl) (by kernel_rfl)) (by kernel_rfl) (by kernel_rfl)
def tabD : List (DataW Unit) := Tz.tab.toList.map fun v => .lit (.int .u8 ((v : Nat) : Int))
theorem tabD_eq : (Rows.laid_math_bits_deBruijn64tab : DataW Unit) = .agg tabD := by rfl
theorem tab_of_laid {W : World} (h : laidMetH Tryd.prog laidTab W) : TabOk W := by
  rw [MakeChecks.laidMetH_plain _ _ _ (by kernel_rfl)] at h
  obtain ⟨ps, ⟨g0, t0, cs0, f0, p0, q0, hg0, ht0, hv0, hd0, _, _⟩, _, _⟩ := h
  obtain rfl := Option.some.inj (gTab.symm.trans hg0)
  obtain rfl := Option.some.inj (tTab.symm.trans ht0)
  rw [tabD_eq] at hd0
  obtain ⟨xs, m1, rfl, hx1, hlen, hn3, hel⟩ := DataW.trod_array Tryd.underlying59 hd0
  have c3 : Tryd.prog.cellsOf 5 = 1 := by kernel_rfl
  simp only [Prod.mk.injEq, DataW.agg.injEq] at hx1
  have hcell : ∀ i v, Tz.tab[i]? = some v → W.cell? ⟨0, i, none⟩ = some (.int .u8 ((v : Nat) : Int)) := by
    intro i v hv
    have hi : i < 64 := by
      have := (Array.getElem?_eq_some_iff.1 hv).1
      exact this
    have h0 := hel i hi
    rw [c3] at h0
    have hxi : i < xs.length := by rw [hn3]; exact hi
    rw [List.getElem?_eq_getElem hxi] at h0
    obtain ⟨k, e1, e2, _⟩ := DataW.trod_int Tryd.underlying5 h0
    have hd : tabD[i]? = (xs.map (·.1))[i]? := by rw [hx1.1]
    have hd2 : tabD[i]? = some (.lit (.int .u8 ((v : Nat) : Int))) := by
      unfold tabD
      rw [List.getElem?_map, Array.getElem?_toList, hv]; rfl
    rw [hd2, List.getElem?_map, List.getElem?_eq_getElem hxi, Option.map_some, e2] at hd
    have hk : k = ((v : Nat) : Int) := by
      have := Option.some.inj hd
      simpa using this.symm
    subst hk
    have h5 := World.var?_cell hg0 hv0 i
    rw [h5]
    have : (cs0.toList.drop (i * 1)).take 1 = [Value.int .u8 ((v : Nat) : Int)] := e1
    rw [Nat.mul_one] at this
    have h6 : cs0.toList[i]? = some (Value.int .u8 ((v : Nat) : Int)) := by
      have h7 : ((cs0.toList.drop i).take 1)[0]? = some (Value.int .u8 ((v : Nat) : Int)) := by rw [this]; rfl
      rw [List.getElem?_take_of_lt (by decide), List.getElem?_drop, Nat.add_zero] at h7
      exact h7
    rw [← Array.getElem?_toList]; exact h6
  refine ⟨?_, hcell⟩
  have := hcell 0 0 (by rfl)
  exact block_lt_of_cell this
end Go.Proofs.YtikdmnedbfpkeaaDoor
