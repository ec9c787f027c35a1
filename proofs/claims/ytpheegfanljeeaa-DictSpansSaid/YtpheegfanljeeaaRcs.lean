/- DictSpans: dictSpans: for every input the law returns true, and each argument reads behind the call as it read before. -/
import Derived.Test.YtpheegfanljeeaaRowk
import Derived.Test.YtpheegfanljeeaaOtx
import Derived.Test.YtpheegfanljeeaaDck
namespace Go.Proofs.Ytpheegfanljeeaa
open Go.ChangeShapes Go.WideShapes Go.ChangeAt Go.RowKit Hy
open Go.ChangeMaps (open_string)
theorem dictSpans_own : ownKnob Try.prog.godebug = none := by kernel_rfl
theorem dictSpans_laid : laidOutB Try.prog = true := by kernel_rfl
theorem dictSpans_reads : (Try.f13.params.toList.all fun t => Try.prog.readableRec t && decide (t < Try.prog.types.size)) = true := by kernel_rfl
set_option maxRecDepth 100000 in
theorem dictSpans_contract (H : Type) (enc : TypeId × Value → H) (W : World) (base : Nat) (args : Array Value) (ds gs : List (DataW H)) (before : List MemPlace)
    (hval : ∀ (j : Nat) t v, Try.f13.params[j]? = some t → args[j]? = some v → Value.okWide Try.prog W .any base t v)
    (hW : DataW.Whole enc Try.prog Try.f13.params.toList Rows.dictSpansSpec.vars false W args.toList ds gs before) (hsz : (DataW.weightsEach Try.prog (Try.f13.params.toList ++ Rows.dictSpansSpec.plain.varTypes Try.prog) (ds ++ gs)).all (· ≤ reachBytes) = true) :
    Calls Try.prog 13 args W fun e W' => ∃ v, e = .returned v ∧ Rows.dictSpansSpec.post enc Try.prog Try.f13 false true false false W args v W' := by
  have hW' := hW
  obtain ⟨p, q, hA0, hV, rfl, hfz, hnd⟩ := hW
  have hA : DataW.TrodAll enc Try.prog W 0 (fun _ => true) true Try.f13.params.toList args.toList ds p := hA0
  rw [Try.params13] at hA hval
  obtain ⟨v0, vs0, d0, ds0, p0, q0, hargs, rfl, rfl, h0, r0⟩ := trodAll_cons hA
  obtain ⟨v1, vs1, d1, ds1, p1, q1, rfl, rfl, rfl, h1, r1⟩ := trodAll_cons r0
  obtain ⟨v2, vs2, d2, ds2, p2, q2, rfl, rfl, rfl, h2, r2⟩ := trodAll_cons r1
  obtain ⟨v3, vs3, d3, ds3, p3, q3, rfl, rfl, rfl, h3, r3⟩ := trodAll_cons r2
  obtain ⟨rfl, rfl, rfl⟩ := trodAll_nil r3
  obtain rfl : args = #[v0, v1, v2, v3] := by cases args; simp_all
  obtain ⟨rfl, rfl⟩ := trodVars_none hV
  obtain ⟨A0, len0, cap0, l0, rfl, hl0, hc0, hm0, hrd0, hok0, hd0⟩ := open_texts Try.underlying55 Try.underlying9 (by kernel_rfl) (hval 0 55 v0 rfl rfl) h0
  have hz0 := sized_texts hsz (j := 0) Try.underlying55 (by rw [Try.params13]; rfl) rfl hd0
  rw [show Try.prog.bytesOf 9 = 16 from by kernel_rfl] at hz0
  obtain ⟨x1, rfl, rfl, rfl, hm1⟩ := open_string Try.underlying9 (hval 1 9 v1 rfl rfl) h1
  have hr1 : x1.data.toList.length ≤ reachBytes := sized_string hsz (j := 1) (t := 9) (by rw [Try.params13]; rfl) rfl
  obtain ⟨x2, rfl, rfl, rfl, hm2⟩ := open_string Try.underlying9 (hval 2 9 v2 rfl rfl) h2
  have hr2 : x2.data.toList.length ≤ reachBytes := sized_string hsz (j := 2) (t := 9) (by rw [Try.params13]; rfl) rfl
  obtain ⟨x3, rfl, rfl, rfl, wf3⟩ := open_int Try.underlying3 (hval 3 3 v3 rfl rfl) h3
  have bx3 := bounds_i64 wf3
  clear hA0
  simp only [List.append_nil] at hW'
  refine Calls.mono (R := fun e W' => e = .returned (.bool true) ∧ Ext W W') ?_ fun e W' ⟨he, hb⟩ => ⟨_, he, law_post dictSpans_laid dictSpans_reads rfl hW' hb rfl Try.underlying4 rfl⟩
  unfold reachBytes at *
  exact dictSpans_walk l0 A0 len0 cap0 x1 x2 x3 W hl0 hrd0 (by have := hz0.1; omega)
set_option maxRecDepth 100000 in
theorem dictSpans_lifted (os : Os) (started : os.Started) (H : Type) (enc : TypeId × Value → H) :
    ReturnsInHanded {} Try.checked os 13 .any (Rows.dictSpansSpec.pre6 enc Try.prog Try.f13 Rows.dictSpansRow.domain false) (Rows.dictSpansSpec.post enc Try.prog Try.f13 false true false false) := by
  refine returnsInHanded_of_change_sized (C := Try.checked) dictSpans_own started (by kernel_rfl) Try.func13
    (ChangeSpec.witness6 (enc := enc) (C := Try.checked) false ⟨#[], #[.slice none 0 0, .string .empty, .string .empty, .int .i64 0], []⟩ 8 (by kernel_rfl) (by kernel_rfl) (by kernel_rfl) (by kernel_rfl)) ?_
  intro W base args ds gs before hval hW _ hsz _
  exact dictSpans_contract H enc W base args ds gs before hval hW hsz
theorem dictSpans_proved : Rows.DictSpansSaid :=
  OpenClaim.holds_of_wide 13 Try.f13 rfl rfl rfl rfl rfl rfl rfl ⟨rfl, rfl, rfl, rfl, rfl⟩ rfl rfl rfl rfl rfl (by kernel_rfl) Try.func13 (by kernel_rfl)
    (of_decide_eq_true (by kernel_rfl)) (by unfold Func.isWrapper; first | (rw [if_pos (by decide +kernel)]; kernel_rfl) | (rw [if_neg (by decide +kernel)]; exact ⟨rfl, rfl⟩))
    (fun os started H enc _ => dictSpans_lifted os started H enc)
end Go.Proofs.Ytpheegfanljeeaa
