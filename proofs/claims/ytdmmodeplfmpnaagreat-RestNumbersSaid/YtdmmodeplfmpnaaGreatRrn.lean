/- RestNumbers: restNumbers: for every input the law returns true, and each argument reads behind the call as it read before. -/
import Derived.Test.YtdmmodeplfmpnaaGreatZS1
import Derived.Test.YtdmmodeplfmpnaaGreatZL2
namespace Go.Proofs.YtdmmodeplfmpnaaGreat
open Go.ChangeShapes Go.WideShapes Go.ChangeAt Go.RowKit Hy
open Go.ChangeMaps (open_string)
theorem restNumbers_own : ownKnob Tryz.prog.godebug = none := by kernel_rfl
theorem restNumbers_laid : laidOutB Tryz.prog = true := by kernel_rfl
theorem restNumbers_reads : (Tryz.f6.params.toList.all fun t => Tryz.prog.readableRec t && decide (t < Tryz.prog.types.size)) = true := by kernel_rfl
set_option maxRecDepth 100000 in
theorem restNumbers_contract (H : Type) (enc : TypeId × Value → H) (W : World) (base : Nat) (args : Array Value) (ds gs : List (DataW H)) (before : List MemPlace)
    (hval : ∀ (j : Nat) t v, Tryz.f6.params[j]? = some t → args[j]? = some v → Value.okWide Tryz.prog W .any base t v)
    (hW : DataW.Whole enc Tryz.prog Tryz.f6.params.toList Rows.restNumbersSpec.vars false W args.toList ds gs before) (hsz : (DataW.weightsEach Tryz.prog (Tryz.f6.params.toList ++ Rows.restNumbersSpec.plain.varTypes Tryz.prog) (ds ++ gs)).all (· ≤ reachBytes) = true) :
    Calls Tryz.prog 6 args W fun e W' => ∃ v, e = .returned v ∧ Rows.restNumbersSpec.post enc Tryz.prog Tryz.f6 false true false false W args v W' := by
  have hW' := hW
  obtain ⟨p, q, hA0, hV, rfl, hfz, hnd⟩ := hW
  have hA : DataW.TrodAll enc Tryz.prog W 0 (fun _ => true) true Tryz.f6.params.toList args.toList ds p := hA0
  rw [Tryz.params6] at hA hval
  obtain ⟨v0, vs0, d0, ds0, p0, q0, hargs, rfl, rfl, h0, r0⟩ := trodAll_cons hA
  obtain ⟨rfl, rfl, rfl⟩ := trodAll_nil r0
  obtain rfl : args = #[v0] := by cases args; simp_all
  obtain ⟨rfl, rfl⟩ := trodVars_none hV
  obtain ⟨A0, len0, cap0, l0, rfl, hl0, hc0, hm0, hrd0, hok0, hd0⟩ := open_nums Tryz.underlying22 Tryz.underlying39 (by kernel_rfl) (hval 0 22 v0 rfl rfl) h0
  have hz0 := sized_nums hsz (j := 0) Tryz.underlying22 (by rw [Tryz.params6]; rfl) rfl hd0
  rw [show Tryz.prog.bytesOf 39 = 8 from by kernel_rfl] at hz0
  clear hA0
  simp only [List.append_nil] at hW'
  refine Calls.mono (R := fun e W' => e = .returned (.bool true) ∧ Ext W W') ?_ fun e W' ⟨he, hb⟩ => ⟨_, he, law_post restNumbers_laid restNumbers_reads rfl hW' hb rfl Tryz.underlying4 rfl⟩
  unfold reachBytes at hz0
  exact restNumbers_walk l0 A0 len0 cap0 W hl0 hrd0 hok0 (by omega)
set_option maxRecDepth 100000 in
theorem restNumbers_lifted (os : Os) (started : os.Started) (H : Type) (enc : TypeId × Value → H) :
    ReturnsInHanded {} Tryz.checked os 6 .any (Rows.restNumbersSpec.pre6 enc Tryz.prog Tryz.f6 Rows.restNumbersRow.domain false) (Rows.restNumbersSpec.post enc Tryz.prog Tryz.f6 false true false false) := by
  refine returnsInHanded_of_change_sized (C := Tryz.checked) restNumbers_own started (by kernel_rfl) Tryz.func6
    (ChangeSpec.witness6 (enc := enc) (C := Tryz.checked) false ⟨#[], #[.slice none 0 0], []⟩ 8 (by kernel_rfl) (by kernel_rfl) (by kernel_rfl) (by kernel_rfl)) ?_
  intro W base args ds gs before hval hW _ hsz _
  exact restNumbers_contract H enc W base args ds gs before hval hW hsz
theorem restNumbers_proved : Rows.RestNumbersSaid :=
  OpenClaim.holds_of_wide 6 Tryz.f6 rfl rfl rfl rfl rfl rfl rfl ⟨rfl, rfl, rfl, rfl, rfl⟩ rfl rfl rfl rfl rfl (by kernel_rfl) Tryz.func6 (by kernel_rfl)
    (of_decide_eq_true (by kernel_rfl)) (by unfold Func.isWrapper; first | (rw [if_pos (by decide +kernel)]; kernel_rfl) | (rw [if_neg (by decide +kernel)]; exact ⟨rfl, rfl⟩))
    (fun os started H enc _ => restNumbers_lifted os started H enc)
end Go.Proofs.YtdmmodeplfmpnaaGreat
