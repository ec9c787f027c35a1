/- DictReads: dictReads: for every input the law returns true, and each argument reads behind the call as it read before. -/
import Derived.Test.YtpheegfanljeeaaOpn
import Derived.Test.YtpheegfanljeeaaRowk
import Derived.Test.YtpheegfanljeeaaOtx
import Derived.Test.YtpheegfanljeeaaDci
namespace Go.Proofs.Ytpheegfanljeeaa
open Go.ChangeShapes Go.WideShapes Go.ChangeAt Go.RowKit Hy
open Go.ChangeMaps (open_string)
theorem dictReads_own : ownKnob Try.prog.godebug = none := by kernel_rfl
theorem dictReads_laid : laidOutB Try.prog = true := by kernel_rfl
theorem dictReads_reads : (Try.f9.params.toList.all fun t => Try.prog.readableRec t && decide (t < Try.prog.types.size)) = true := by kernel_rfl
set_option maxRecDepth 100000 in
theorem dictReads_contract (H : Type) (enc : TypeId × Value → H) (W : World) (base : Nat) (args : Array Value) (ds gs : List (DataW H)) (before : List MemPlace)
    (hval : ∀ (j : Nat) t v, Try.f9.params[j]? = some t → args[j]? = some v → Value.okWide Try.prog W .any base t v)
    (hW : DataW.Whole enc Try.prog Try.f9.params.toList Rows.dictReadsSpec.vars false W args.toList ds gs before) (hsz : (DataW.weightsEach Try.prog (Try.f9.params.toList ++ Rows.dictReadsSpec.plain.varTypes Try.prog) (ds ++ gs)).all (· ≤ reachBytes) = true) :
    Calls Try.prog 9 args W fun e W' => ∃ v, e = .returned v ∧ Rows.dictReadsSpec.post enc Try.prog Try.f9 false true false false W args v W' := by
  have hW' := hW
  obtain ⟨p, q, hA0, hV, rfl, hfz, hnd⟩ := hW
  have hA : DataW.TrodAll enc Try.prog W 0 (fun _ => true) true Try.f9.params.toList args.toList ds p := hA0
  rw [Try.params9] at hA hval
  obtain ⟨v0, vs0, d0, ds0, p0, q0, hargs, rfl, rfl, h0, r0⟩ := trodAll_cons hA
  obtain ⟨v1, vs1, d1, ds1, p1, q1, rfl, rfl, rfl, h1, r1⟩ := trodAll_cons r0
  obtain ⟨v2, vs2, d2, ds2, p2, q2, rfl, rfl, rfl, h2, r2⟩ := trodAll_cons r1
  obtain ⟨v3, vs3, d3, ds3, p3, q3, rfl, rfl, rfl, h3, r3⟩ := trodAll_cons r2
  obtain ⟨v4, vs4, d4, ds4, p4, q4, rfl, rfl, rfl, h4, r4⟩ := trodAll_cons r3
  obtain ⟨rfl, rfl, rfl⟩ := trodAll_nil r4
  obtain rfl : args = #[v0, v1, v2, v3, v4] := by cases args; simp_all
  obtain ⟨rfl, rfl⟩ := trodVars_none hV
  obtain ⟨A0, len0, cap0, l0, rfl, hl0, hc0, hm0, hrd0, hok0, hd0⟩ := open_texts Try.underlying55 Try.underlying9 (by kernel_rfl) (hval 0 55 v0 rfl rfl) h0
  have hz0 := sized_texts hsz (j := 0) Try.underlying55 (by rw [Try.params9]; rfl) rfl hd0
  rw [show Try.prog.bytesOf 9 = 16 from by kernel_rfl] at hz0
  obtain ⟨A1, len1, cap1, l1, rfl, hl1, hc1, hm1, hrd1, hok1, hd1⟩ := open_nums Try.underlying56 Try.underlying35 (by kernel_rfl) (hval 1 56 v1 rfl rfl) h1
  have hz1 := sized_nums hsz (j := 1) Try.underlying56 (by rw [Try.params9]; rfl) rfl hd1
  rw [show Try.prog.bytesOf 35 = 8 from by kernel_rfl] at hz1
  obtain ⟨x2, rfl, rfl, rfl, hm2⟩ := open_string Try.underlying9 (hval 2 9 v2 rfl rfl) h2
  have hr2 : x2.data.toList.length ≤ reachBytes := sized_string hsz (j := 2) (t := 9) (by rw [Try.params9]; rfl) rfl
  obtain ⟨x3, rfl, rfl, rfl, hm3⟩ := open_string Try.underlying9 (hval 3 9 v3 rfl rfl) h3
  have hr3 : x3.data.toList.length ≤ reachBytes := sized_string hsz (j := 3) (t := 9) (by rw [Try.params9]; rfl) rfl
  obtain ⟨x4, rfl, rfl, rfl, hm4⟩ := open_string Try.underlying9 (hval 4 9 v4 rfl rfl) h4
  have hr4 : x4.data.toList.length ≤ reachBytes := sized_string hsz (j := 4) (t := 9) (by rw [Try.params9]; rfl) rfl
  clear hA0
  simp only [List.append_nil] at hW'
  refine Calls.mono (R := fun e W' => e = .returned (.bool true) ∧ Ext W W') ?_ fun e W' ⟨he, hb⟩ => ⟨_, he, law_post dictReads_laid dictReads_reads rfl hW' hb rfl Try.underlying4 rfl⟩
  unfold reachBytes at *
  exact dictReads_walk l0 l1 A0 A1 len0 len1 cap0 cap1 x2 x3 x4 W hl0 hl1 hrd0 hrd1 (by have := hz0.1; omega) (by omega) hok1 (fun x hx => by have := hz0.2 x hx; omega) (by omega) (by omega) (by omega)
set_option maxRecDepth 100000 in
theorem dictReads_lifted (os : Os) (started : os.Started) (H : Type) (enc : TypeId × Value → H) :
    ReturnsInHanded {} Try.checked os 9 .any (Rows.dictReadsSpec.pre6 enc Try.prog Try.f9 Rows.dictReadsRow.domain false) (Rows.dictReadsSpec.post enc Try.prog Try.f9 false true false false) := by
  refine returnsInHanded_of_change_sized (C := Try.checked) dictReads_own started (by kernel_rfl) Try.func9
    (ChangeSpec.witness6 (enc := enc) (C := Try.checked) false ⟨#[], #[.slice none 0 0, .slice none 0 0, .string .empty, .string .empty, .string .empty], []⟩ 8 (by kernel_rfl) (by kernel_rfl) (by kernel_rfl) (by kernel_rfl)) ?_
  intro W base args ds gs before hval hW _ hsz _
  exact dictReads_contract H enc W base args ds gs before hval hW hsz
theorem dictReads_proved : Rows.DictReadsSaid :=
  OpenClaim.holds_of_wide 9 Try.f9 rfl rfl rfl rfl rfl rfl rfl ⟨rfl, rfl, rfl, rfl, rfl⟩ rfl rfl rfl rfl rfl (by kernel_rfl) Try.func9 (by kernel_rfl)
    (of_decide_eq_true (by kernel_rfl)) (by unfold Func.isWrapper; first | (rw [if_pos (by decide +kernel)]; kernel_rfl) | (rw [if_neg (by decide +kernel)]; exact ⟨rfl, rfl⟩))
    (fun os started H enc _ => dictReads_lifted os started H enc)
end Go.Proofs.Ytpheegfanljeeaa
