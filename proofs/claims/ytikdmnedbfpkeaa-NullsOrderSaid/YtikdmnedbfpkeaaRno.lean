/- NullsOrder: nullsOrder: for every input the law returns true, and each argument reads behind the call as it read before. -/
import Derived.Test.YtikdmnedbfpkeaaOst
import Derived.Test.YtikdmnedbfpkeaaNlh
namespace Go.Proofs.Ytikdmnedbfpkeaa
open Go.ChangeShapes Go.WideShapes Go.ChangeAt Go.RowKit Hy
open Go.ChangeMaps (open_string)
theorem nullsOrder_own : ownKnob Try.prog.godebug = none := by kernel_rfl
theorem nullsOrder_laid : laidOutB Try.prog = true := by kernel_rfl
theorem nullsOrder_reads : (Try.f11.params.toList.all fun t => Try.prog.readableRec t && decide (t < Try.prog.types.size)) = true := by kernel_rfl
theorem nullsOrder_contract (H : Type) (enc : TypeId × Value → H) (W : World) (base : Nat) (args : Array Value) (ds gs : List (DataW H)) (before : List MemPlace)
    (hval : ∀ (j : Nat) t v, Try.f11.params[j]? = some t → args[j]? = some v → Value.okWide Try.prog W .any base t v)
    (hW : DataW.Whole enc Try.prog Try.f11.params.toList Rows.nullsOrderSpec.vars false W args.toList ds gs before) (hsz : (DataW.weightsEach Try.prog (Try.f11.params.toList ++ Rows.nullsOrderSpec.plain.varTypes Try.prog) (ds ++ gs)).all (· ≤ reachBytes) = true) :
    Calls Try.prog 11 args W fun e W' => ∃ v, e = .returned v ∧ Rows.nullsOrderSpec.post enc Try.prog Try.f11 false true false false W args v W' := by
  have hW' := hW
  obtain ⟨p, q, hA0, hV, rfl, hfz, hnd⟩ := hW
  have hA : DataW.TrodAll enc Try.prog W 0 (fun _ => true) true Try.f11.params.toList args.toList ds p := hA0
  rw [Try.params11] at hA hval
  obtain ⟨v0, vs0, d0, ds0, p0, q0, hargs, rfl, rfl, h0, r0⟩ := trodAll_cons hA
  obtain ⟨v1, vs1, d1, ds1, p1, q1, rfl, rfl, rfl, h1, r1⟩ := trodAll_cons r0
  obtain ⟨v2, vs2, d2, ds2, p2, q2, rfl, rfl, rfl, h2, r2⟩ := trodAll_cons r1
  obtain ⟨rfl, rfl, rfl⟩ := trodAll_nil r2
  obtain rfl : args = #[v0, v1, v2] := by cases args; simp_all
  obtain ⟨rfl, rfl⟩ := trodVars_none hV
  obtain ⟨c0, rfl, rfl, ok0⟩ := open_cel Try.underlying25 (by kernel_rfl) (by kernel_rfl) Try.underlying3 Try.underlying23 Try.underlying9 (hval 0 25 v0 rfl rfl) h0
  have hs0 := weights_each hsz (j := 0) (by rw [Try.params11]; rfl) rfl _ (cel_weight Try.underlying25 c0)
  obtain ⟨c1, rfl, rfl, ok1⟩ := open_cel Try.underlying25 (by kernel_rfl) (by kernel_rfl) Try.underlying3 Try.underlying23 Try.underlying9 (hval 1 25 v1 rfl rfl) h1
  have hs1 := weights_each hsz (j := 1) (by rw [Try.params11]; rfl) rfl _ (cel_weight Try.underlying25 c1)
  obtain ⟨c2, rfl, rfl, ok2⟩ := open_cel Try.underlying25 (by kernel_rfl) (by kernel_rfl) Try.underlying3 Try.underlying23 Try.underlying9 (hval 2 25 v2 rfl rfl) h2
  have hs2 := weights_each hsz (j := 2) (by rw [Try.params11]; rfl) rfl _ (cel_weight Try.underlying25 c2)
  clear hA0
  simp only [List.append_nil] at hW'
  refine Calls.mono (R := fun e W' => e = .returned (.bool true) ∧ Ext W W') ?_ fun e W' ⟨he, hb⟩ => ⟨_, he, law_post nullsOrder_laid nullsOrder_reads rfl hW' hb rfl Try.underlying4 rfl⟩
  unfold reachBytes at *
  exact nullsOrder_walk c0 c1 c2 W (by omega) (by omega)
set_option maxRecDepth 100000 in
theorem nullsOrder_lifted (os : Os) (started : os.Started) (H : Type) (enc : TypeId × Value → H) :
    ReturnsInHanded {} Try.checked os 11 .any (Rows.nullsOrderSpec.pre6 enc Try.prog Try.f11 Rows.nullsOrderRow.domain false) (Rows.nullsOrderSpec.post enc Try.prog Try.f11 false true false false) := by
  refine returnsInHanded_of_change_sized (C := Try.checked) nullsOrder_own started (by kernel_rfl) Try.func11
    (ChangeSpec.witness6 (enc := enc) (C := Try.checked) false ⟨#[], #[.agg #[.int .i64 0, .int .u64 0, .string .empty], .agg #[.int .i64 0, .int .u64 0, .string .empty], .agg #[.int .i64 0, .int .u64 0, .string .empty]], []⟩ 8 (by kernel_rfl) (by kernel_rfl) (by kernel_rfl) (by kernel_rfl)) ?_
  intro W base args ds gs before hval hW _ hsz _
  exact nullsOrder_contract H enc W base args ds gs before hval hW hsz
theorem nullsOrder_proved : Rows.NullsOrderSaid :=
  OpenClaim.holds_of_wide 11 Try.f11 rfl rfl rfl rfl rfl rfl rfl ⟨rfl, rfl, rfl, rfl, rfl⟩ rfl rfl rfl rfl rfl (by kernel_rfl) Try.func11 (by kernel_rfl)
    (of_decide_eq_true (by kernel_rfl)) (by unfold Func.isWrapper; first | (rw [if_pos (by decide +kernel)]; kernel_rfl) | (rw [if_neg (by decide +kernel)]; exact ⟨rfl, rfl⟩))
    (fun os started H enc _ => nullsOrder_lifted os started H enc)
end Go.Proofs.Ytikdmnedbfpkeaa
