/- AdlerTells: adlerTells: for every input the law returns true, and each argument reads behind the call as it read before. -/
import Derived.Test.YtiamfjfbmgijhaaRowk
import Derived.Test.YtiamfjfbmgijhaaAdb
namespace Go.Proofs.Ytiamfjfbmgijhaa
open Go.ChangeShapes Go.WideShapes Go.ChangeAt Go.RowKit Hy
open Go.ChangeMaps (open_string)
theorem adlerTells_own : ownKnob Try.prog.godebug = none := by kernel_rfl
theorem adlerTells_laid : laidOutB Try.prog = true := by kernel_rfl
theorem adlerTells_reads : (Try.f4.params.toList.all fun t => Try.prog.readableRec t && decide (t < Try.prog.types.size)) = true := by kernel_rfl
theorem adlerTells_contract (H : Type) (enc : TypeId × Value → H) (W : World) (base : Nat) (args : Array Value) (ds gs : List (DataW H)) (before : List MemPlace)
    (hval : ∀ (j : Nat) t v, Try.f4.params[j]? = some t → args[j]? = some v → Value.okWide Try.prog W .any base t v)
    (hW : DataW.Whole enc Try.prog Try.f4.params.toList Rows.adlerTellsSpec.vars false W args.toList ds gs before) (hsz : (DataW.weightsEach Try.prog (Try.f4.params.toList ++ Rows.adlerTellsSpec.plain.varTypes Try.prog) (ds ++ gs)).all (· ≤ reachBytes) = true) :
    Calls Try.prog 4 args W fun e W' => ∃ v, e = .returned v ∧ Rows.adlerTellsSpec.post enc Try.prog Try.f4 false true false false W args v W' := by
  have hW' := hW
  obtain ⟨p, q, hA0, hV, rfl, hfz, hnd⟩ := hW
  have hA : DataW.TrodAll enc Try.prog W 0 (fun _ => true) true Try.f4.params.toList args.toList ds p := hA0
  rw [Try.params4] at hA hval
  obtain ⟨v0, vs0, d0, ds0, p0, q0, hargs, rfl, rfl, h0, r0⟩ := trodAll_cons hA
  obtain ⟨v1, vs1, d1, ds1, p1, q1, rfl, rfl, rfl, h1, r1⟩ := trodAll_cons r0
  obtain ⟨v2, vs2, d2, ds2, p2, q2, rfl, rfl, rfl, h2, r2⟩ := trodAll_cons r1
  obtain ⟨v3, vs3, d3, ds3, p3, q3, rfl, rfl, rfl, h3, r3⟩ := trodAll_cons r2
  obtain ⟨v4, vs4, d4, ds4, p4, q4, rfl, rfl, rfl, h4, r4⟩ := trodAll_cons r3
  obtain ⟨v5, vs5, d5, ds5, p5, q5, rfl, rfl, rfl, h5, r5⟩ := trodAll_cons r4
  obtain ⟨rfl, rfl, rfl⟩ := trodAll_nil r5
  obtain rfl : args = #[v0, v1, v2, v3, v4, v5] := by cases args; simp_all
  obtain ⟨rfl, rfl⟩ := trodVars_none hV
  obtain ⟨x0, rfl, rfl, rfl, wf0⟩ := open_int Try.underlying32 (hval 0 32 v0 rfl rfl) h0
  have bx0 := bounds_u32 wf0
  obtain ⟨x1, rfl, rfl, rfl, wf1⟩ := open_int Try.underlying32 (hval 1 32 v1 rfl rfl) h1
  have bx1 := bounds_u32 wf1
  obtain ⟨x2, rfl, rfl, rfl, hm2⟩ := open_string Try.underlying9 (hval 2 9 v2 rfl rfl) h2
  have hr2 : x2.data.toList.length ≤ reachBytes := sized_string hsz (j := 2) (t := 9) (by rw [Try.params4]; rfl) rfl
  obtain ⟨x3, rfl, rfl, rfl, wf3⟩ := open_int Try.underlying3 (hval 3 3 v3 rfl rfl) h3
  have bx3 := bounds_i64 wf3
  obtain ⟨x4, rfl, rfl, rfl, wf4⟩ := open_int Try.underlying5 (hval 4 5 v4 rfl rfl) h4
  have bx4 := bounds_u8 wf4
  obtain ⟨x5, rfl, rfl, rfl, wf5⟩ := open_int Try.underlying5 (hval 5 5 v5 rfl rfl) h5
  have bx5 := bounds_u8 wf5
  clear hA0
  simp only [List.append_nil] at hW'
  refine Calls.mono (R := fun e W' => e = .returned (.bool true) ∧ Ext W W') ?_ fun e W' ⟨he, hb⟩ => ⟨_, he, law_post adlerTells_laid adlerTells_reads rfl hW' hb rfl Try.underlying4 rfl⟩
  obtain ⟨c, rfl⟩ : ∃ c : Nat, x0 = c := ⟨x0.toNat, by omega⟩
  obtain ⟨d, rfl⟩ : ∃ c : Nat, x1 = c := ⟨x1.toNat, by omega⟩
  have hs : x2.size ≤ 140737488351232 := by
    have : x2.data.toList.length = x2.size := by simp
    unfold reachBytes at hr2; omega
  exact tells_any c d x2 x3 x4 x5 W (by omega) (by omega) (by omega) (by omega) (by omega) (by omega) hs
set_option maxRecDepth 100000 in
theorem adlerTells_lifted (os : Os) (started : os.Started) (H : Type) (enc : TypeId × Value → H) :
    ReturnsInHanded {} Try.checked os 4 .any (Rows.adlerTellsSpec.pre6 enc Try.prog Try.f4 Rows.adlerTellsRow.domain false) (Rows.adlerTellsSpec.post enc Try.prog Try.f4 false true false false) := by
  refine returnsInHanded_of_change_sized (C := Try.checked) adlerTells_own started (by kernel_rfl) Try.func4
    (ChangeSpec.witness6 (enc := enc) (C := Try.checked) false ⟨#[], #[.int .u32 0, .int .u32 0, .string .empty, .int .i64 0, .int .u8 0, .int .u8 0], []⟩ 8 (by kernel_rfl) (by kernel_rfl) (by kernel_rfl) (by kernel_rfl)) ?_
  intro W base args ds gs before hval hW _ hsz _
  exact adlerTells_contract H enc W base args ds gs before hval hW hsz
theorem adlerTells_proved : Rows.AdlerTellsSaid :=
  OpenClaim.holds_of_wide 4 Try.f4 rfl rfl rfl rfl rfl rfl rfl ⟨rfl, rfl, rfl, rfl, rfl⟩ rfl rfl rfl rfl rfl (by kernel_rfl) Try.func4 (by kernel_rfl)
    (of_decide_eq_true (by kernel_rfl)) (by unfold Func.isWrapper; first | (rw [if_pos (by decide +kernel)]; kernel_rfl) | (rw [if_neg (by decide +kernel)]; exact ⟨rfl, rfl⟩))
    (fun os started H enc _ => adlerTells_lifted os started H enc)
end Go.Proofs.Ytiamfjfbmgijhaa
