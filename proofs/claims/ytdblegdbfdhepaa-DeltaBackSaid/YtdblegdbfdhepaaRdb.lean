/- DeltaBack: deltaBack: for every input the law returns true, and each argument reads behind the call as it read before. -/
import Derived.Test.YtdblegdbfdhepaaOpn
import Derived.Test.YtdblegdbfdhepaaDle
namespace Go.Proofs.Ytdblegdbfdhepaa
open Go.ChangeShapes Go.WideShapes Go.ChangeAt Go.RowKit Hy
open Go.ChangeMaps (open_string)
theorem deltaBack_own : ownKnob Try.prog.godebug = none := by kernel_rfl
theorem deltaBack_laid : laidOutB Try.prog = true := by kernel_rfl
theorem deltaBack_reads : (Try.f15.params.toList.all fun t => Try.prog.readableRec t && decide (t < Try.prog.types.size)) = true := by kernel_rfl
set_option maxRecDepth 100000 in
theorem deltaBack_contract (H : Type) (enc : TypeId × Value → H) (W : World) (base : Nat) (args : Array Value) (ds gs : List (DataW H)) (before : List MemPlace)
    (hval : ∀ (j : Nat) t v, Try.f15.params[j]? = some t → args[j]? = some v → Value.okWide Try.prog W .any base t v)
    (hW : DataW.Whole enc Try.prog Try.f15.params.toList Rows.deltaBackSpec.vars false W args.toList ds gs before) (hsz : (DataW.weightsEach Try.prog (Try.f15.params.toList ++ Rows.deltaBackSpec.plain.varTypes Try.prog) (ds ++ gs)).all (· ≤ reachBytes) = true) :
    Calls Try.prog 15 args W fun e W' => ∃ v, e = .returned v ∧ Rows.deltaBackSpec.post enc Try.prog Try.f15 false true false false W args v W' := by
  have hW' := hW
  obtain ⟨p, q, hA0, hV, rfl, hfz, hnd⟩ := hW
  have hA : DataW.TrodAll enc Try.prog W 0 (fun _ => true) true Try.f15.params.toList args.toList ds p := hA0
  rw [Try.params15] at hA hval
  obtain ⟨v0, vs0, d0, ds0, p0, q0, hargs, rfl, rfl, h0, r0⟩ := trodAll_cons hA
  obtain ⟨v1, vs1, d1, ds1, p1, q1, rfl, rfl, rfl, h1, r1⟩ := trodAll_cons r0
  obtain ⟨rfl, rfl, rfl⟩ := trodAll_nil r1
  obtain rfl : args = #[v0, v1] := by cases args; simp_all
  obtain ⟨rfl, rfl⟩ := trodVars_none hV
  obtain ⟨A0, len0, cap0, l0, rfl, hl0, hc0, hm0, hrd0, hok0, hd0⟩ := open_nums Try.underlying22 Try.underlying33 (by kernel_rfl) (hval 0 22 v0 rfl rfl) h0
  have hz0 := sized_nums hsz (j := 0) Try.underlying22 (by rw [Try.params15]; rfl) rfl hd0
  rw [show Try.prog.bytesOf 33 = 8 from by kernel_rfl] at hz0
  obtain ⟨x1, rfl, rfl, rfl, wf1⟩ := open_int Try.underlying33 (hval 1 33 v1 rfl rfl) h1
  have bx1 := bounds_u64 wf1
  clear hA0
  simp only [List.append_nil] at hW'
  refine Calls.mono (R := fun e W' => e = .returned (.bool true) ∧ Ext W W') ?_ fun e W' ⟨he, hb⟩ => ⟨_, he, law_post deltaBack_laid deltaBack_reads rfl hW' hb rfl Try.underlying4 rfl⟩
  unfold reachBytes at hz0
  obtain ⟨m, rfl⟩ := Int.eq_ofNat_of_zero_le bx1.1
  exact deltaBack_walk l0 A0 len0 cap0 m W hl0 hrd0 hok0 (by omega) (by omega)
set_option maxRecDepth 100000 in
theorem deltaBack_lifted (os : Os) (started : os.Started) (H : Type) (enc : TypeId × Value → H) :
    ReturnsInHanded {} Try.checked os 15 .any (Rows.deltaBackSpec.pre6 enc Try.prog Try.f15 Rows.deltaBackRow.domain false) (Rows.deltaBackSpec.post enc Try.prog Try.f15 false true false false) := by
  refine returnsInHanded_of_change_sized (C := Try.checked) deltaBack_own started (by kernel_rfl) Try.func15
    (ChangeSpec.witness6 (enc := enc) (C := Try.checked) false ⟨#[], #[.slice none 0 0, .int .u64 0], []⟩ 8 (by kernel_rfl) (by kernel_rfl) (by kernel_rfl) (by kernel_rfl)) ?_
  intro W base args ds gs before hval hW _ hsz _
  exact deltaBack_contract H enc W base args ds gs before hval hW hsz
theorem deltaBack_proved : Rows.DeltaBackSaid :=
  OpenClaim.holds_of_wide 15 Try.f15 rfl rfl rfl rfl rfl rfl rfl ⟨rfl, rfl, rfl, rfl, rfl⟩ rfl rfl rfl rfl rfl (by kernel_rfl) Try.func15 (by kernel_rfl)
    (of_decide_eq_true (by kernel_rfl)) (by unfold Func.isWrapper; first | (rw [if_pos (by decide +kernel)]; kernel_rfl) | (rw [if_neg (by decide +kernel)]; exact ⟨rfl, rfl⟩))
    (fun os started H enc _ => deltaBack_lifted os started H enc)
end Go.Proofs.Ytdblegdbfdhepaa
