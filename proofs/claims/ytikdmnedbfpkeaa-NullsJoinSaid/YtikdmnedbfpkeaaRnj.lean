/- NullsJoin: nullsJoin: for every input the law returns true, and each argument reads behind the call as it read before. -/
import Derived.Test.YtikdmnedbfpkeaaObm
import Derived.Test.YtikdmnedbfpkeaaNli
namespace Go.Proofs.Ytikdmnedbfpkeaa
open Go.ChangeShapes Go.WideShapes Go.ChangeAt Go.RowKit Hy
open Go.ChangeMaps (open_string)
theorem nullsJoin_own : ownKnob Try.prog.godebug = none := by kernel_rfl
theorem nullsJoin_laid : laidOutB Try.prog = true := by kernel_rfl
theorem nullsJoin_reads : (Try.f9.params.toList.all fun t => Try.prog.readableRec t && decide (t < Try.prog.types.size)) = true := by kernel_rfl
theorem nullsJoin_contract (H : Type) (enc : TypeId × Value → H) (W : World) (base : Nat) (args : Array Value) (ds gs : List (DataW H)) (before : List MemPlace)
    (hval : ∀ (j : Nat) t v, Try.f9.params[j]? = some t → args[j]? = some v → Value.okWide Try.prog W .any base t v)
    (hW : DataW.Whole enc Try.prog Try.f9.params.toList Rows.nullsJoinSpec.vars false W args.toList ds gs before) (hsz : (DataW.weightsEach Try.prog (Try.f9.params.toList ++ Rows.nullsJoinSpec.plain.varTypes Try.prog) (ds ++ gs)).all (· ≤ reachBytes) = true) :
    Calls Try.prog 9 args W fun e W' => ∃ v, e = .returned v ∧ Rows.nullsJoinSpec.post enc Try.prog Try.f9 false true false false W args v W' := by
  have hW' := hW
  obtain ⟨p, q, hA0, hV, rfl, hfz, hnd⟩ := hW
  have hA : DataW.TrodAll enc Try.prog W 0 (fun _ => true) true Try.f9.params.toList args.toList ds p := hA0
  rw [Try.params9] at hA hval
  obtain ⟨v0, vs0, d0, ds0, p0, q0, hargs, rfl, rfl, h0, r0⟩ := trodAll_cons hA
  obtain ⟨v1, vs1, d1, ds1, p1, q1, rfl, rfl, rfl, h1, r1⟩ := trodAll_cons r0
  obtain ⟨v2, vs2, d2, ds2, p2, q2, rfl, rfl, rfl, h2, r2⟩ := trodAll_cons r1
  obtain ⟨v3, vs3, d3, ds3, p3, q3, rfl, rfl, rfl, h3, r3⟩ := trodAll_cons r2
  obtain ⟨rfl, rfl, rfl⟩ := trodAll_nil r3
  obtain rfl : args = #[v0, v1, v2, v3] := by cases args; simp_all
  obtain ⟨rfl, rfl⟩ := trodVars_none hV
  obtain ⟨x0, rfl, rfl, rfl, wf0⟩ := open_int Try.underlying3 (hval 0 3 v0 rfl rfl) h0
  have bx0 := bounds_i64 wf0
  obtain ⟨A1, len1, cap1, l1, rfl, hl1, hc1, hm1, hn1, hrd1, hok1, hd1⟩ := open_list (f := mk1) (m := 1) (fun _ => rfl) (by decide) (g := datMk) (ok := fun _ => True) Try.underlying42 (by kernel_rfl) (read_mk Try.underlying4) (hval 1 42 v1 rfl rfl) h1
  rw [mk1_bls] at hrd1
  have hz1 := (weights_list Try.underlying42 hd1 (weights_each hsz (j := 1) (by rw [Try.params9]; rfl) rfl)).1
  rw [show Try.prog.bytesOf 4 = 1 from by kernel_rfl, List.length_map] at hz1
  obtain ⟨A2, len2, cap2, l2, rfl, hl2, hc2, hm2, hn2, hrd2, hok2, hd2⟩ := open_list (f := cel3) (m := 3) (fun _ => rfl) (by decide) (g := datCel) (ok := okCel) Try.underlying22 (by kernel_rfl) (read_cel Try.underlying25 (by kernel_rfl) Try.underlying3 Try.underlying23 Try.underlying9) (hval 2 22 v2 rfl rfl) h2
  have hw2 := weights_list Try.underlying22 hd2 (weights_each hsz (j := 2) (by rw [Try.params9]; rfl) rfl)
  have hz2 := hw2.1
  rw [show Try.prog.bytesOf 25 = 32 from by kernel_rfl, List.length_map] at hz2
  have hs2 : ∀ c ∈ l2, c.2.2.size ≤ reachBytes := fun c hc => hw2.2 _ (List.mem_map.2 ⟨c, hc, rfl⟩) _ (cel_weight Try.underlying25 c)
  clear hw2
  obtain ⟨x3, rfl, rfl, rfl, wf3⟩ := open_int Try.underlying3 (hval 3 3 v3 rfl rfl) h3
  have bx3 := bounds_i64 wf3
  clear hA0
  simp only [List.append_nil] at hW'
  refine Calls.mono (R := fun e W' => e = .returned (.bool true) ∧ Ext W W') ?_ fun e W' ⟨he, hb⟩ => ⟨_, he, law_post nullsJoin_laid nullsJoin_reads rfl hW' hb rfl Try.underlying4 rfl⟩
  unfold reachBytes at *
  exact nullsJoin_walk x0 l1 l2 x3 A1 A2 len2 len1 cap1 cap2 W hl1 hrd1 hl2 hrd2 hc1 hc2 (by omega) (by omega)
set_option maxRecDepth 100000 in
theorem nullsJoin_lifted (os : Os) (started : os.Started) (H : Type) (enc : TypeId × Value → H) :
    ReturnsInHanded {} Try.checked os 9 .any (Rows.nullsJoinSpec.pre6 enc Try.prog Try.f9 Rows.nullsJoinRow.domain false) (Rows.nullsJoinSpec.post enc Try.prog Try.f9 false true false false) := by
  refine returnsInHanded_of_change_sized (C := Try.checked) nullsJoin_own started (by kernel_rfl) Try.func9
    (ChangeSpec.witness6 (enc := enc) (C := Try.checked) false ⟨#[], #[.int .i64 0, .slice none 0 0, .slice none 0 0, .int .i64 0], []⟩ 8 (by kernel_rfl) (by kernel_rfl) (by kernel_rfl) (by kernel_rfl)) ?_
  intro W base args ds gs before hval hW _ hsz _
  exact nullsJoin_contract H enc W base args ds gs before hval hW hsz
theorem nullsJoin_proved : Rows.NullsJoinSaid :=
  OpenClaim.holds_of_wide 9 Try.f9 rfl rfl rfl rfl rfl rfl rfl ⟨rfl, rfl, rfl, rfl, rfl⟩ rfl rfl rfl rfl rfl (by kernel_rfl) Try.func9 (by kernel_rfl)
    (of_decide_eq_true (by kernel_rfl)) (by unfold Func.isWrapper; first | (rw [if_pos (by decide +kernel)]; kernel_rfl) | (rw [if_neg (by decide +kernel)]; exact ⟨rfl, rfl⟩))
    (fun os started H enc _ => nullsJoin_lifted os started H enc)
end Go.Proofs.Ytikdmnedbfpkeaa
