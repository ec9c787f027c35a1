/- RunsLeast: runsLeast: for every input the law returns true, and each argument reads behind the call as it read before. -/
import Derived.Test.YtgobnpogmghgkaaRowk
import Derived.Test.YtgobnpogmghgkaaRus
import Derived.Test.YtgobnpogmghgkaaRuv
namespace Go.Proofs.Ytgobnpogmghgkaa
open Go.ChangeShapes Go.WideShapes Go.ChangeAt Go.RowKit Hy
open Go.ChangeMaps (open_string)
theorem runsLeast_own : ownKnob Try.prog.godebug = none := by kernel_rfl
theorem runsLeast_laid : laidOutB Try.prog = true := by kernel_rfl
theorem runsLeast_reads : (Try.f13.params.toList.all fun t => Try.prog.readableRec t && decide (t < Try.prog.types.size)) = true := by kernel_rfl
theorem runsLeast_contract (H : Type) (enc : TypeId × Value → H) (W : World) (base : Nat) (args : Array Value) (ds gs : List (DataW H)) (before : List MemPlace)
    (hval : ∀ (j : Nat) t v, Try.f13.params[j]? = some t → args[j]? = some v → Value.okWide Try.prog W .any base t v)
    (hW : DataW.Whole enc Try.prog Try.f13.params.toList Rows.runsLeastSpec.vars false W args.toList ds gs before) (hsz : (DataW.weightsEach Try.prog (Try.f13.params.toList ++ Rows.runsLeastSpec.plain.varTypes Try.prog) (ds ++ gs)).all (· ≤ reachBytes) = true) :
    Calls Try.prog 13 args W fun e W' => ∃ v, e = .returned v ∧ Rows.runsLeastSpec.post enc Try.prog Try.f13 false true false false W args v W' := by
  have hW' := hW
  obtain ⟨p, q, hA0, hV, rfl, hfz, hnd⟩ := hW
  have hA : DataW.TrodAll enc Try.prog W 0 (fun _ => true) true Try.f13.params.toList args.toList ds p := hA0
  rw [Try.params13] at hA hval
  obtain ⟨v0, vs0, d0, ds0, p0, q0, hargs, rfl, rfl, h0, r0⟩ := trodAll_cons hA
  obtain ⟨rfl, rfl, rfl⟩ := trodAll_nil r0
  obtain rfl : args = #[v0] := by cases args; simp_all
  obtain ⟨rfl, rfl⟩ := trodVars_none hV
  obtain ⟨A0, len0, cap0, l0, rfl, hl0, hc0, hm0, hn0, hrd0, hok0, hd0⟩ := open_list (f := run2) (m := 2) (fun _ => rfl) (by decide) (g := datRun) (ok := okRun) Try.underlying37 (by kernel_rfl) (read_run Try.underlying54 (by kernel_rfl) Try.underlying46 Try.underlying3) (hval 0 37 v0 rfl rfl) h0
  have hz0 := (weights_list Try.underlying37 hd0 (weights_each hsz (j := 0) (by rw [Try.params13]; rfl) rfl)).1
  rw [show Try.prog.bytesOf 54 = 16 from by kernel_rfl, List.length_map] at hz0
  clear hA0
  simp only [List.append_nil] at hW'
  refine Calls.mono (R := fun e W' => e = .returned (.bool true) ∧ Ext W W') ?_ fun e W' ⟨he, hb⟩ => ⟨_, he, law_post runsLeast_laid runsLeast_reads rfl hW' hb rfl Try.underlying4 rfl⟩
  have hz := hz0
  unfold reachBytes at *
  exact runsLeast_walk l0 A0 len0 cap0 W hl0 hrd0 (by omega)
set_option maxRecDepth 100000 in
theorem runsLeast_lifted (os : Os) (started : os.Started) (H : Type) (enc : TypeId × Value → H) :
    ReturnsInHanded {} Try.checked os 13 .any (Rows.runsLeastSpec.pre6 enc Try.prog Try.f13 Rows.runsLeastRow.domain false) (Rows.runsLeastSpec.post enc Try.prog Try.f13 false true false false) := by
  refine returnsInHanded_of_change_sized (C := Try.checked) runsLeast_own started (by kernel_rfl) Try.func13
    (ChangeSpec.witness6 (enc := enc) (C := Try.checked) false ⟨#[], #[.slice none 0 0], []⟩ 8 (by kernel_rfl) (by kernel_rfl) (by kernel_rfl) (by kernel_rfl)) ?_
  intro W base args ds gs before hval hW _ hsz _
  exact runsLeast_contract H enc W base args ds gs before hval hW hsz
theorem runsLeast_proved : Rows.RunsLeastSaid :=
  OpenClaim.holds_of_wide 13 Try.f13 rfl rfl rfl rfl rfl rfl rfl ⟨rfl, rfl, rfl, rfl, rfl⟩ rfl rfl rfl rfl rfl (by kernel_rfl) Try.func13 (by kernel_rfl)
    (of_decide_eq_true (by kernel_rfl)) (by unfold Func.isWrapper; first | (rw [if_pos (by decide +kernel)]; kernel_rfl) | (rw [if_neg (by decide +kernel)]; exact ⟨rfl, rfl⟩))
    (fun os started H enc _ => runsLeast_lifted os started H enc)
end Go.Proofs.Ytgobnpogmghgkaa
