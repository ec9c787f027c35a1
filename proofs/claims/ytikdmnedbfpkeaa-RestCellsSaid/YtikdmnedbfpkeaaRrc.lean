/- RestCells: restCells: for every input the law returns true, and each argument reads behind the call as it read before. -/
import Derived.Test.YtikdmnedbfpkeaaOst
import Derived.Test.YtikdmnedbfpkeaaNlm
namespace Go.Proofs.Ytikdmnedbfpkeaa
open Go.ChangeShapes Go.WideShapes Go.ChangeAt Go.RowKit Hy
open Go.ChangeMaps (open_string)
theorem restCells_own : ownKnob Try.prog.godebug = none := by kernel_rfl
theorem restCells_laid : laidOutB Try.prog = true := by kernel_rfl
theorem restCells_reads : (Try.f12.params.toList.all fun t => Try.prog.readableRec t && decide (t < Try.prog.types.size)) = true := by kernel_rfl
theorem restCells_contract (H : Type) (enc : TypeId × Value → H) (W : World) (base : Nat) (args : Array Value) (ds gs : List (DataW H)) (before : List MemPlace)
    (hval : ∀ (j : Nat) t v, Try.f12.params[j]? = some t → args[j]? = some v → Value.okWide Try.prog W .any base t v)
    (hW : DataW.Whole enc Try.prog Try.f12.params.toList Rows.restCellsSpec.vars false W args.toList ds gs before) (hsz : (DataW.weightsEach Try.prog (Try.f12.params.toList ++ Rows.restCellsSpec.plain.varTypes Try.prog) (ds ++ gs)).all (· ≤ reachBytes) = true) :
    Calls Try.prog 12 args W fun e W' => ∃ v, e = .returned v ∧ Rows.restCellsSpec.post enc Try.prog Try.f12 false true false false W args v W' := by
  have hW' := hW
  obtain ⟨p, q, hA0, hV, rfl, hfz, hnd⟩ := hW
  have hA : DataW.TrodAll enc Try.prog W 0 (fun _ => true) true Try.f12.params.toList args.toList ds p := hA0
  rw [Try.params12] at hA hval
  obtain ⟨v0, vs0, d0, ds0, p0, q0, hargs, rfl, rfl, h0, r0⟩ := trodAll_cons hA
  obtain ⟨v1, vs1, d1, ds1, p1, q1, rfl, rfl, rfl, h1, r1⟩ := trodAll_cons r0
  obtain ⟨rfl, rfl, rfl⟩ := trodAll_nil r1
  obtain rfl : args = #[v0, v1] := by cases args; simp_all
  obtain ⟨rfl, rfl⟩ := trodVars_none hV
  obtain ⟨x0, rfl, rfl, rfl, wf0⟩ := open_int Try.underlying3 (hval 0 3 v0 rfl rfl) h0
  have bx0 := bounds_i64 wf0
  obtain ⟨A1, len1, cap1, l1, rfl, hl1, hc1, hm1, hn1, hrd1, hok1, hd1⟩ := open_list (f := cel3) (m := 3) (fun _ => rfl) (by decide) (g := datCel) (ok := okCel) Try.underlying22 (by kernel_rfl) (read_cel Try.underlying25 (by kernel_rfl) Try.underlying3 Try.underlying23 Try.underlying9) (hval 1 22 v1 rfl rfl) h1
  have hw1 := weights_list Try.underlying22 hd1 (weights_each hsz (j := 1) (by rw [Try.params12]; rfl) rfl)
  have hz1 := hw1.1
  rw [show Try.prog.bytesOf 25 = 32 from by kernel_rfl, List.length_map] at hz1
  have hs1 : ∀ c ∈ l1, c.2.2.size ≤ reachBytes := fun c hc => hw1.2 _ (List.mem_map.2 ⟨c, hc, rfl⟩) _ (cel_weight Try.underlying25 c)
  clear hw1
  clear hA0
  simp only [List.append_nil] at hW'
  refine Calls.mono (R := fun e W' => e = .returned (.bool true) ∧ Ext W W') ?_ fun e W' ⟨he, hb⟩ => ⟨_, he, law_post restCells_laid restCells_reads rfl hW' hb rfl Try.underlying4 rfl⟩
  unfold reachBytes at *
  exact restCells_walk x0 l1 A1 len1 cap1 W hl1 hrd1 hn1 (by omega)
set_option maxRecDepth 100000 in
theorem restCells_lifted (os : Os) (started : os.Started) (H : Type) (enc : TypeId × Value → H) :
    ReturnsInHanded {} Try.checked os 12 .any (Rows.restCellsSpec.pre6 enc Try.prog Try.f12 Rows.restCellsRow.domain false) (Rows.restCellsSpec.post enc Try.prog Try.f12 false true false false) := by
  refine returnsInHanded_of_change_sized (C := Try.checked) restCells_own started (by kernel_rfl) Try.func12
    (ChangeSpec.witness6 (enc := enc) (C := Try.checked) false ⟨#[], #[.int .i64 0, .slice none 0 0], []⟩ 8 (by kernel_rfl) (by kernel_rfl) (by kernel_rfl) (by kernel_rfl)) ?_
  intro W base args ds gs before hval hW _ hsz _
  exact restCells_contract H enc W base args ds gs before hval hW hsz
theorem restCells_proved : Rows.RestCellsSaid :=
  OpenClaim.holds_of_wide 12 Try.f12 rfl rfl rfl rfl rfl rfl rfl ⟨rfl, rfl, rfl, rfl, rfl⟩ rfl rfl rfl rfl rfl (by kernel_rfl) Try.func12 (by kernel_rfl)
    (of_decide_eq_true (by kernel_rfl)) (by unfold Func.isWrapper; first | (rw [if_pos (by decide +kernel)]; kernel_rfl) | (rw [if_neg (by decide +kernel)]; exact ⟨rfl, rfl⟩))
    (fun os started H enc _ => restCells_lifted os started H enc)
end Go.Proofs.Ytikdmnedbfpkeaa
