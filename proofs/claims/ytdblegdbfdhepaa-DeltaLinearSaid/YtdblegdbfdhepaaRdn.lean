/- DeltaLinear: deltaLinear: for every input the law returns true, and each argument reads behind the call as it read before. -/
import Derived.Test.YtdblegdbfdhepaaOpn
import Derived.Test.YtdblegdbfdhepaaDlg
namespace Go.Proofs.Ytdblegdbfdhepaa
open Go.ChangeShapes Go.WideShapes Go.ChangeAt Go.RowKit Hy
open Go.ChangeMaps (open_string)
theorem deltaLinear_own : ownKnob Try.prog.godebug = none := by kernel_rfl
theorem deltaLinear_laid : laidOutB Try.prog = true := by kernel_rfl
theorem deltaLinear_reads : (Try.f17.params.toList.all fun t => Try.prog.readableRec t && decide (t < Try.prog.types.size)) = true := by kernel_rfl
set_option maxRecDepth 100000 in
theorem deltaLinear_contract (H : Type) (enc : TypeId × Value → H) (W : World) (base : Nat) (args : Array Value) (ds gs : List (DataW H)) (before : List MemPlace)
    (hval : ∀ (j : Nat) t v, Try.f17.params[j]? = some t → args[j]? = some v → Value.okWide Try.prog W .any base t v)
    (hW : DataW.Whole enc Try.prog Try.f17.params.toList Rows.deltaLinearSpec.vars false W args.toList ds gs before) (hsz : (DataW.weightsEach Try.prog (Try.f17.params.toList ++ Rows.deltaLinearSpec.plain.varTypes Try.prog) (ds ++ gs)).all (· ≤ reachBytes) = true) :
    Calls Try.prog 17 args W fun e W' => ∃ v, e = .returned v ∧ Rows.deltaLinearSpec.post enc Try.prog Try.f17 false true false false W args v W' := by
  have hW' := hW
  obtain ⟨p, q, hA0, hV, rfl, hfz, hnd⟩ := hW
  have hA : DataW.TrodAll enc Try.prog W 0 (fun _ => true) true Try.f17.params.toList args.toList ds p := hA0
  rw [Try.params17] at hA hval
  obtain ⟨v0, vs0, d0, ds0, p0, q0, hargs, rfl, rfl, h0, r0⟩ := trodAll_cons hA
  obtain ⟨v1, vs1, d1, ds1, p1, q1, rfl, rfl, rfl, h1, r1⟩ := trodAll_cons r0
  obtain ⟨rfl, rfl, rfl⟩ := trodAll_nil r1
  obtain rfl : args = #[v0, v1] := by cases args; simp_all
  obtain ⟨rfl, rfl⟩ := trodVars_none hV
  obtain ⟨A0, len0, cap0, l0, rfl, hl0, hc0, hm0, hrd0, hok0, hd0⟩ := open_nums Try.underlying22 Try.underlying33 (by kernel_rfl) (hval 0 22 v0 rfl rfl) h0
  have hz0 := sized_nums hsz (j := 0) Try.underlying22 (by rw [Try.params17]; rfl) rfl hd0
  rw [show Try.prog.bytesOf 33 = 8 from by kernel_rfl] at hz0
  obtain ⟨A1, len1, cap1, l1, rfl, hl1, hc1, hm1, hrd1, hok1, hd1⟩ := open_nums Try.underlying22 Try.underlying33 (by kernel_rfl) (hval 1 22 v1 rfl rfl) h1
  have hz1 := sized_nums hsz (j := 1) Try.underlying22 (by rw [Try.params17]; rfl) rfl hd1
  rw [show Try.prog.bytesOf 33 = 8 from by kernel_rfl] at hz1
  clear hA0
  simp only [List.append_nil] at hW'
  refine Calls.mono (R := fun e W' => e = .returned (.bool true) ∧ Ext W W') ?_ fun e W' ⟨he, hb⟩ => ⟨_, he, law_post deltaLinear_laid deltaLinear_reads rfl hW' hb rfl Try.underlying4 rfl⟩
  unfold reachBytes at hz0 hz1
  exact deltaLinear_walk l0 l1 A0 A1 len0 len1 cap0 cap1 W hl0 hl1 hrd0 hrd1 hok0 hok1 (by omega) (by omega)
set_option maxRecDepth 100000 in
theorem deltaLinear_lifted (os : Os) (started : os.Started) (H : Type) (enc : TypeId × Value → H) :
    ReturnsInHanded {} Try.checked os 17 .any (Rows.deltaLinearSpec.pre6 enc Try.prog Try.f17 Rows.deltaLinearRow.domain false) (Rows.deltaLinearSpec.post enc Try.prog Try.f17 false true false false) := by
  refine returnsInHanded_of_change_sized (C := Try.checked) deltaLinear_own started (by kernel_rfl) Try.func17
    (ChangeSpec.witness6 (enc := enc) (C := Try.checked) false ⟨#[], #[.slice none 0 0, .slice none 0 0], []⟩ 8 (by kernel_rfl) (by kernel_rfl) (by kernel_rfl) (by kernel_rfl)) ?_
  intro W base args ds gs before hval hW _ hsz _
  exact deltaLinear_contract H enc W base args ds gs before hval hW hsz
theorem deltaLinear_proved : Rows.DeltaLinearSaid :=
  OpenClaim.holds_of_wide 17 Try.f17 rfl rfl rfl rfl rfl rfl rfl ⟨rfl, rfl, rfl, rfl, rfl⟩ rfl rfl rfl rfl rfl (by kernel_rfl) Try.func17 (by kernel_rfl)
    (of_decide_eq_true (by kernel_rfl)) (by unfold Func.isWrapper; first | (rw [if_pos (by decide +kernel)]; kernel_rfl) | (rw [if_neg (by decide +kernel)]; exact ⟨rfl, rfl⟩))
    (fun os started H enc _ => deltaLinear_lifted os started H enc)
end Go.Proofs.Ytdblegdbfdhepaa
