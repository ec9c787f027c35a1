/- PageCut: pageCut: for every input the law returns true, and each argument reads behind the call as it read before. -/
import Derived.Test.YthgnipangcmanaaGreatZS1
import Derived.Test.YthgnipangcmanaaGreatZC6
namespace Go.Proofs.YthgnipangcmanaaGreat
open Go.ChangeShapes Go.WideShapes Go.ChangeAt Go.RowKit Hy
open Go.ChangeMaps (open_string)
theorem pageCut_own : ownKnob Tryz.prog.godebug = none := by kernel_rfl
theorem pageCut_laid : laidOutB Tryz.prog = true := by kernel_rfl
theorem pageCut_reads : (Tryz.f8.params.toList.all fun t => Tryz.prog.readableRec t && decide (t < Tryz.prog.types.size)) = true := by kernel_rfl
set_option maxRecDepth 100000 in
theorem pageCut_contract (H : Type) (enc : TypeId × Value → H) (W : World) (base : Nat) (args : Array Value) (ds gs : List (DataW H)) (before : List MemPlace)
    (hval : ∀ (j : Nat) t v, Tryz.f8.params[j]? = some t → args[j]? = some v → Value.okWide Tryz.prog W .any base t v)
    (hW : DataW.Whole enc Tryz.prog Tryz.f8.params.toList Rows.pageCutSpec.vars false W args.toList ds gs before) (hsz : (DataW.weightsEach Tryz.prog (Tryz.f8.params.toList ++ Rows.pageCutSpec.plain.varTypes Tryz.prog) (ds ++ gs)).all (· ≤ reachBytes) = true) :
    Calls Tryz.prog 8 args W fun e W' => ∃ v, e = .returned v ∧ Rows.pageCutSpec.post enc Tryz.prog Tryz.f8 false true false false W args v W' := by
  have hW' := hW
  obtain ⟨p, q, hA0, hV, rfl, hfz, hnd⟩ := hW
  have hA : DataW.TrodAll enc Tryz.prog W 0 (fun _ => true) true Tryz.f8.params.toList args.toList ds p := hA0
  rw [Tryz.params8] at hA hval
  obtain ⟨v0, vs0, d0, ds0, p0, q0, hargs, rfl, rfl, h0, r0⟩ := trodAll_cons hA
  obtain ⟨v1, vs1, d1, ds1, p1, q1, rfl, rfl, rfl, h1, r1⟩ := trodAll_cons r0
  obtain ⟨v2, vs2, d2, ds2, p2, q2, rfl, rfl, rfl, h2, r2⟩ := trodAll_cons r1
  obtain ⟨rfl, rfl, rfl⟩ := trodAll_nil r2
  obtain rfl : args = #[v0, v1, v2] := by cases args; simp_all
  obtain ⟨rfl, rfl⟩ := trodVars_none hV
  obtain ⟨x0, rfl, rfl, rfl, wf0⟩ := open_int Tryz.underlying3 (hval 0 3 v0 rfl rfl) h0
  have bx0 := bounds_i64 wf0
  obtain ⟨A1, len1, cap1, l1, rfl, hl1, hc1, hm1, hn1, hrd1, hok1, hd1⟩ := open_list (f := cel3) (m := 3) (fun _ => rfl) (by decide) (g := datCel) (ok := okCel) Tryz.underlying22 (by kernel_rfl) (read_cel Tryz.underlying48 (by kernel_rfl) Tryz.underlying3 Tryz.underlying34 Tryz.underlying9) (hval 1 22 v1 rfl rfl) h1
  have hw1 := weights_list Tryz.underlying22 hd1 (weights_each hsz (j := 1) (by rw [Tryz.params8]; rfl) rfl)
  have hz1 := hw1.1
  rw [show Tryz.prog.bytesOf 48 = 32 from by kernel_rfl, List.length_map] at hz1
  have hs1 : ∀ c ∈ l1, c.2.2.size ≤ reachBytes := fun c hc => hw1.2 _ (List.mem_map.2 ⟨c, hc, rfl⟩) _ (cel_weight Tryz.underlying48 c)
  clear hw1
  obtain ⟨x2, rfl, rfl, rfl, wf2⟩ := open_int Tryz.underlying3 (hval 2 3 v2 rfl rfl) h2
  have bx2 := bounds_i64 wf2
  clear hA0
  simp only [List.append_nil] at hW'
  refine Calls.mono (R := fun e W' => e = .returned (.bool true) ∧ Ext W W') ?_ fun e W' ⟨he, hb⟩ => ⟨_, he, law_post pageCut_laid pageCut_reads rfl hW' hb rfl Tryz.underlying4 rfl⟩
  unfold reachBytes at *
  exact pageCut_walk x0 l1 A1 len1 cap1 x2 W hl1 hrd1 (fun x hx => by obtain ⟨c, hc, rfl⟩ := List.mem_map.1 hx; exact (hok1 c hc).1) (by omega)
set_option maxRecDepth 100000 in
theorem pageCut_lifted (os : Os) (started : os.Started) (H : Type) (enc : TypeId × Value → H) :
    ReturnsInHanded {} Tryz.checked os 8 .any (Rows.pageCutSpec.pre6 enc Tryz.prog Tryz.f8 Rows.pageCutRow.domain false) (Rows.pageCutSpec.post enc Tryz.prog Tryz.f8 false true false false) := by
  refine returnsInHanded_of_change_sized (C := Tryz.checked) pageCut_own started (by kernel_rfl) Tryz.func8
    (ChangeSpec.witness6 (enc := enc) (C := Tryz.checked) false ⟨#[], #[.int .i64 0, .slice none 0 0, .int .i64 0], []⟩ 8 (by kernel_rfl) (by kernel_rfl) (by kernel_rfl) (by kernel_rfl)) ?_
  intro W base args ds gs before hval hW _ hsz _
  exact pageCut_contract H enc W base args ds gs before hval hW hsz
theorem pageCut_proved : Rows.PageCutSaid :=
  OpenClaim.holds_of_wide 8 Tryz.f8 rfl rfl rfl rfl rfl rfl rfl ⟨rfl, rfl, rfl, rfl, rfl⟩ rfl rfl rfl rfl rfl (by kernel_rfl) Tryz.func8 (by kernel_rfl)
    (of_decide_eq_true (by kernel_rfl)) (by unfold Func.isWrapper; first | (rw [if_pos (by decide +kernel)]; kernel_rfl) | (rw [if_neg (by decide +kernel)]; exact ⟨rfl, rfl⟩))
    (fun os started H enc _ => pageCut_lifted os started H enc)
end Go.Proofs.YthgnipangcmanaaGreat
