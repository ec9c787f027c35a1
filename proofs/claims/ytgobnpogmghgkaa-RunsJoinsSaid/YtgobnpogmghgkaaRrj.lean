/- RunsJoins: runsJoins: for every input the law returns true, and each argument reads behind the call as it read before. -/
import Derived.Test.YtgobnpogmghgkaaRowk
import Derived.Test.YtgobnpogmghgkaaRus
import Derived.Test.YtgobnpogmghgkaaRuw
import Derived.Test.YtgobnpogmghgkaaRux
namespace Go.Proofs.Ytgobnpogmghgkaa
open Go.ChangeShapes Go.WideShapes Go.ChangeAt Go.RowKit Hy
open Go.ChangeMaps (open_string)
theorem runsJoins_own : ownKnob Try.prog.godebug = none := by kernel_rfl
theorem runsJoins_laid : laidOutB Try.prog = true := by kernel_rfl
theorem runsJoins_reads : (Try.f14.params.toList.all fun t => Try.prog.readableRec t && decide (t < Try.prog.types.size)) = true := by kernel_rfl
theorem runsJoins_contract (H : Type) (enc : TypeId × Value → H) (W : World) (base : Nat) (args : Array Value) (ds gs : List (DataW H)) (before : List MemPlace)
    (hval : ∀ (j : Nat) t v, Try.f14.params[j]? = some t → args[j]? = some v → Value.okWide Try.prog W .any base t v)
    (hW : DataW.Whole enc Try.prog Try.f14.params.toList Rows.runsJoinsSpec.vars false W args.toList ds gs before) (hsz : (DataW.weightsEach Try.prog (Try.f14.params.toList ++ Rows.runsJoinsSpec.plain.varTypes Try.prog) (ds ++ gs)).all (· ≤ reachBytes) = true) :
    Calls Try.prog 14 args W fun e W' => ∃ v, e = .returned v ∧ Rows.runsJoinsSpec.post enc Try.prog Try.f14 false true false false W args v W' := by
  have hW' := hW
  obtain ⟨p, q, hA0, hV, rfl, hfz, hnd⟩ := hW
  have hA : DataW.TrodAll enc Try.prog W 0 (fun _ => true) true Try.f14.params.toList args.toList ds p := hA0
  rw [Try.params14] at hA hval
  obtain ⟨v0, vs0, d0, ds0, p0, q0, hargs, rfl, rfl, h0, r0⟩ := trodAll_cons hA
  obtain ⟨v1, vs1, d1, ds1, p1, q1, rfl, rfl, rfl, h1, r1⟩ := trodAll_cons r0
  obtain ⟨rfl, rfl, rfl⟩ := trodAll_nil r1
  obtain rfl : args = #[v0, v1] := by cases args; simp_all
  obtain ⟨rfl, rfl⟩ := trodVars_none hV
  obtain ⟨A0, len0, cap0, l0, rfl, hl0, hc0, hm0, hrd0, hok0, hd0⟩ := open_nums Try.underlying36 Try.underlying46 (by kernel_rfl) (hval 0 36 v0 rfl rfl) h0
  have hz0 := sized_nums hsz (j := 0) Try.underlying36 (by rw [Try.params14]; rfl) rfl hd0
  rw [show Try.prog.bytesOf 46 = 8 from by kernel_rfl] at hz0
  obtain ⟨A1, len1, cap1, l1, rfl, hl1, hc1, hm1, hrd1, hok1, hd1⟩ := open_nums Try.underlying36 Try.underlying46 (by kernel_rfl) (hval 1 36 v1 rfl rfl) h1
  have hz1 := sized_nums hsz (j := 1) Try.underlying36 (by rw [Try.params14]; rfl) rfl hd1
  rw [show Try.prog.bytesOf 46 = 8 from by kernel_rfl] at hz1
  clear hA0
  simp only [List.append_nil] at hW'
  refine Calls.mono (R := fun e W' => e = .returned (.bool true) ∧ Ext W W') ?_ fun e W' ⟨he, hb⟩ => ⟨_, he, law_post runsJoins_laid runsJoins_reads rfl hW' hb rfl Try.underlying4 rfl⟩
  have hz := hz0
  unfold reachBytes at *
  exact runsJoins_walk l0 l1 A0 A1 len0 len1 cap0 cap1 W hl0 hl1 hrd0 hrd1 (fun h => by rw [← hl0]; exact rd_none hrd0 h) (fun h => by rw [← hl1]; exact rd_none hrd1 h) (by omega) (by omega)
set_option maxRecDepth 100000 in
theorem runsJoins_lifted (os : Os) (started : os.Started) (H : Type) (enc : TypeId × Value → H) :
    ReturnsInHanded {} Try.checked os 14 .any (Rows.runsJoinsSpec.pre6 enc Try.prog Try.f14 Rows.runsJoinsRow.domain false) (Rows.runsJoinsSpec.post enc Try.prog Try.f14 false true false false) := by
  refine returnsInHanded_of_change_sized (C := Try.checked) runsJoins_own started (by kernel_rfl) Try.func14
    (ChangeSpec.witness6 (enc := enc) (C := Try.checked) false ⟨#[], #[.slice none 0 0, .slice none 0 0], []⟩ 8 (by kernel_rfl) (by kernel_rfl) (by kernel_rfl) (by kernel_rfl)) ?_
  intro W base args ds gs before hval hW _ hsz _
  exact runsJoins_contract H enc W base args ds gs before hval hW hsz
theorem runsJoins_proved : Rows.RunsJoinsSaid :=
  OpenClaim.holds_of_wide 14 Try.f14 rfl rfl rfl rfl rfl rfl rfl ⟨rfl, rfl, rfl, rfl, rfl⟩ rfl rfl rfl rfl rfl (by kernel_rfl) Try.func14 (by kernel_rfl)
    (of_decide_eq_true (by kernel_rfl)) (by unfold Func.isWrapper; first | (rw [if_pos (by decide +kernel)]; kernel_rfl) | (rw [if_neg (by decide +kernel)]; exact ⟨rfl, rfl⟩))
    (fun os started H enc _ => runsJoins_lifted os started H enc)
end Go.Proofs.Ytgobnpogmghgkaa
