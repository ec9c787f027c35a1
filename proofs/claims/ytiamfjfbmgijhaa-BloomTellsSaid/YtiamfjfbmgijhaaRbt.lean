/- BloomTells: bloomTells: for every input the law returns true, and each argument reads behind the call as it read before. -/
import Derived.Test.YtiamfjfbmgijhaaRowk
import Derived.Test.YtiamfjfbmgijhaaOpen
import Derived.Test.YtiamfjfbmgijhaaBmf
namespace Go.Proofs.Ytiamfjfbmgijhaa
open Go.ChangeShapes Go.WideShapes Go.ChangeAt Go.RowKit Hy
open Go.ChangeMaps (open_string)
theorem bloomTells_own : ownKnob Try.prog.godebug = none := by kernel_rfl
theorem bloomTells_laid : laidOutB Try.prog = true := by kernel_rfl
theorem bloomTells_reads : (Try.f10.params.toList.all fun t => Try.prog.readableRec t && decide (t < Try.prog.types.size)) = true := by kernel_rfl
theorem bloomTells_contract (H : Type) (enc : TypeId × Value → H) (W : World) (base : Nat) (args : Array Value) (ds gs : List (DataW H)) (before : List MemPlace)
    (hval : ∀ (j : Nat) t v, Try.f10.params[j]? = some t → args[j]? = some v → Value.okWide Try.prog W .any base t v)
    (hW : DataW.Whole enc Try.prog Try.f10.params.toList Rows.bloomTellsSpec.vars false W args.toList ds gs before) (hsz : (DataW.weightsEach Try.prog (Try.f10.params.toList ++ Rows.bloomTellsSpec.plain.varTypes Try.prog) (ds ++ gs)).all (· ≤ reachBytes) = true) :
    Calls Try.prog 10 args W fun e W' => ∃ v, e = .returned v ∧ Rows.bloomTellsSpec.post enc Try.prog Try.f10 false true false false W args v W' := by
  have hW' := hW
  obtain ⟨p, q, hA0, hV, rfl, hfz, hnd⟩ := hW
  have hA : DataW.TrodAll enc Try.prog W 0 (fun _ => true) true Try.f10.params.toList args.toList ds p := hA0
  rw [Try.params10] at hA hval
  obtain ⟨v0, vs0, d0, ds0, p0, q0, hargs, rfl, rfl, h0, r0⟩ := trodAll_cons hA
  obtain ⟨v1, vs1, d1, ds1, p1, q1, rfl, rfl, rfl, h1, r1⟩ := trodAll_cons r0
  obtain ⟨v2, vs2, d2, ds2, p2, q2, rfl, rfl, rfl, h2, r2⟩ := trodAll_cons r1
  obtain ⟨v3, vs3, d3, ds3, p3, q3, rfl, rfl, rfl, h3, r3⟩ := trodAll_cons r2
  obtain ⟨rfl, rfl, rfl⟩ := trodAll_nil r3
  obtain rfl : args = #[v0, v1, v2, v3] := by cases args; simp_all
  obtain ⟨rfl, rfl⟩ := trodVars_none hV
  obtain ⟨f0, fo0, rfl, rfl⟩ := open_four Try.underlying23 Try.underlying22 (by kernel_rfl) (by kernel_rfl) (hval 0 23 v0 rfl rfl) h0
  obtain ⟨f1, fo1, rfl, rfl⟩ := open_four Try.underlying23 Try.underlying22 (by kernel_rfl) (by kernel_rfl) (hval 1 23 v1 rfl rfl) h1
  obtain ⟨A2, len2, cap2, l2, rfl, hl2, hc2, hm2, hrd2, hok2, hd2⟩ := open_cells Try.underlying24 Try.underlying26 (by kernel_rfl) (by kernel_rfl) Try.underlying3 Try.underlying22 Try.underlying9 (hval 2 24 v2 rfl rfl) h2
  have hz2 := sized_cells hsz (j := 2) Try.underlying24 Try.underlying26 (by rw [Try.params10]; rfl) rfl hd2
  obtain ⟨c3, rfl, rfl, hn3, hs3⟩ := open_cell Try.underlying26 (by kernel_rfl) (by kernel_rfl) Try.underlying3 Try.underlying22 Try.underlying9 (hval 3 26 v3 rfl rfl) h3
  have hz3 := sized_cell hsz (j := 3) Try.underlying26 (by rw [Try.params10]; rfl) rfl
  clear hA0
  simp only [List.append_nil] at hW'
  refine Calls.mono (R := fun e W' => e = .returned (.bool true) ∧ Ext W W') ?_ fun e W' ⟨he, hb⟩ => ⟨_, he, law_post bloomTells_laid bloomTells_reads rfl hW' hb rfl Try.underlying4 rfl⟩
  have hb26 : Try.prog.bytesOf 26 = 32 := by kernel_rfl
  rw [hb26] at hz2
  obtain ⟨z1, z2⟩ := hz2
  unfold reachBytes at z1 z2 hz3
  exact btells_any f0 f1 l2 len2 A2 cap2 c3.k c3.n c3.s W fo0 fo1 hrd2 (fun c hc => ⟨(hok2 c hc).1, Nat.le_trans (z2 c hc) (by decide)⟩) hl2 (by omega) hn3 (by omega)
set_option maxRecDepth 100000 in
theorem bloomTells_lifted (os : Os) (started : os.Started) (H : Type) (enc : TypeId × Value → H) :
    ReturnsInHanded {} Try.checked os 10 .any (Rows.bloomTellsSpec.pre6 enc Try.prog Try.f10 Rows.bloomTellsRow.domain false) (Rows.bloomTellsSpec.post enc Try.prog Try.f10 false true false false) := by
  refine returnsInHanded_of_change_sized (C := Try.checked) bloomTells_own started (by kernel_rfl) Try.func10
    (ChangeSpec.witness6 (enc := enc) (C := Try.checked) false ⟨#[], #[.agg #[.int .u64 0, .int .u64 0, .int .u64 0, .int .u64 0], .agg #[.int .u64 0, .int .u64 0, .int .u64 0, .int .u64 0], .slice none 0 0, .agg #[.int .i64 0, .int .u64 0, .string .empty]], []⟩ 8 (by kernel_rfl) (by kernel_rfl) (by kernel_rfl) (by kernel_rfl)) ?_
  intro W base args ds gs before hval hW _ hsz _
  exact bloomTells_contract H enc W base args ds gs before hval hW hsz
theorem bloomTells_proved : Rows.BloomTellsSaid :=
  OpenClaim.holds_of_wide 10 Try.f10 rfl rfl rfl rfl rfl rfl rfl ⟨rfl, rfl, rfl, rfl, rfl⟩ rfl rfl rfl rfl rfl (by kernel_rfl) Try.func10 (by kernel_rfl)
    (of_decide_eq_true (by kernel_rfl)) (by unfold Func.isWrapper; first | (rw [if_pos (by decide +kernel)]; kernel_rfl) | (rw [if_neg (by decide +kernel)]; exact ⟨rfl, rfl⟩))
    (fun os started H enc _ => bloomTells_lifted os started H enc)
end Go.Proofs.Ytiamfjfbmgijhaa
