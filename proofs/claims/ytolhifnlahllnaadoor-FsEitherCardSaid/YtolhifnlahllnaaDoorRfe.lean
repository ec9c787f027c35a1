/- FsEither: fsEither: for every input the law returns true, and each argument reads behind the call as it read before. -/
import Derived.Test.YtolhifnlahllnaaDoorFts
import Derived.Test.YtolhifnlahllnaaDoorOft
import Derived.Test.YtolhifnlahllnaaDoorTie
import Derived.Test.YtolhifnlahllnaaDoorCards
namespace Go.Proofs.YtolhifnlahllnaaDoor
open Go.ChangeShapes Go.WideShapes Go.ChangeAt Go.RowKit Hy
open Go.ChangeMaps (open_string)
theorem fsEither_own : ownKnob Tryd.prog.godebug = none := by kernel_rfl
theorem fsEither_laid : laidOutB Tryd.prog = true := by kernel_rfl
theorem fsEither_reads : (Tryd.f7.params.toList.all fun t => Tryd.prog.readableRec t && decide (t < Tryd.prog.types.size)) = true := by kernel_rfl
set_option maxRecDepth 100000 in
theorem fsEither_contract (H : Type) (enc : TypeId × Value → H) (W : World) (base : Nat) (args : Array Value) (ds gs : List (DataW H)) (before : List MemPlace)
    (hval : ∀ (j : Nat) t v, Tryd.f7.params[j]? = some t → args[j]? = some v → Value.okWide Tryd.prog W .any base t v)
    (hW : DataW.Whole enc Tryd.prog Tryd.f7.params.toList Rows.fsEitherSpec.vars false W args.toList ds gs before) (hsz : (DataW.weightsEach Tryd.prog (Tryd.f7.params.toList ++ Rows.fsEitherSpec.plain.varTypes Tryd.prog) (ds ++ gs)).all (· ≤ reachBytes) = true) (_hL : laidMetH Tryd.prog laidTab W) :
    Calls Tryd.prog 7 args W fun e W' => ∃ v, e = .returned v ∧ Rows.fsEitherSpec.post enc Tryd.prog Tryd.f7 false true false false W args v W' := by
  have hW' := hW
  obtain ⟨p, q, hA0, hV, rfl, hfz, hnd⟩ := hW
  have hA : DataW.TrodAll enc Tryd.prog W 0 (fun _ => true) true Tryd.f7.params.toList args.toList ds p := hA0
  rw [Tryd.params7] at hA hval
  obtain ⟨v0, vs0, d0, ds0, p0, q0, hargs, rfl, rfl, h0, r0⟩ := trodAll_cons hA
  obtain ⟨v1, vs1, d1, ds1, p1, q1, rfl, rfl, rfl, h1, r1⟩ := trodAll_cons r0
  obtain ⟨v2, vs2, d2, ds2, p2, q2, rfl, rfl, rfl, h2, r2⟩ := trodAll_cons r1
  obtain ⟨rfl, rfl, rfl⟩ := trodAll_nil r2
  obtain rfl : args = #[v0, v1, v2] := by cases args; simp_all
  obtain ⟨rfl, rfl⟩ := trodVars_none hV
  obtain ⟨f0, hf0, hg0, hk0, u0, v0', w0, rfl, hi0, hj0, hl0⟩ := open_fs (hval 0 25 v0 rfl rfl) h0
  have hb0 := fs_b (weights_each hsz (j := 0) (by rw [Tryd.params7]; rfl) rfl) hi0 hj0 hl0 hg0 hk0
  obtain ⟨x1, rfl, rfl, rfl, hm1⟩ := open_string Tryd.underlying9 (hval 1 9 v1 rfl rfl) h1
  have hr1 : x1.data.toList.length ≤ reachBytes := sized_string hsz (j := 1) (t := 9) (by rw [Tryd.params7]; rfl) rfl
  obtain ⟨x2, rfl, rfl, rfl, wf2⟩ := open_int Tryd.underlying28 (hval 2 28 v2 rfl rfl) h2
  have bx2 := bounds_u64 wf2
  clear hA0
  simp only [List.append_nil] at hW'
  refine Calls.mono (R := fun e W' => e = .returned (.bool true) ∧ Ext W W') ?_ fun e W' ⟨he, hb⟩ => ⟨_, he, law_post fsEither_laid fsEither_reads rfl hW' hb rfl Tryd.underlying4 rfl⟩
  obtain ⟨k2, rfl⟩ : ∃ k : Nat, x2 = k := ⟨x2.toNat, by omega⟩
  exact fsEither_any f0 x1 k2 _ W hf0 hb0 (by omega)
set_option maxRecDepth 100000 in
theorem fsEither_lifted (os : Os) (started : os.Started) (H : Type) (enc : TypeId × Value → H) :
    ReturnsInHanded {} Tryd.checked os 7 .any (fun w args => (Rows.fsEitherSpec.pre enc Tryd.prog Tryd.f7 [] false w args ∧ laidMetH Tryd.prog laidTab w) ∧ sizedMet enc Tryd.prog Tryd.f7 (OpenSpec.ofChange Rows.fsEitherSpec) false w args)
      (Rows.fsEitherSpec.post enc Tryd.prog Tryd.f7 false true false false) := by
  refine returnsInHanded_of_change_and (C := Tryd.checked) (X := fun w _ => laidMetH Tryd.prog laidTab w) (fun _ _ _ hh h => h.of_heap hh) fsEither_own started (by kernel_rfl) Tryd.func7
    (ChangeSpec.witness_shaped (enc := enc) (C := Tryd.checked) (os := os) (X := fun w _ => laidMetH Tryd.prog laidTab w) false (World.laidAll Tryd.prog os laidTab) #[.agg #[.slice none 0 0, .slice none 0 0, .slice none 0 0], .string .empty, .int .u64 0] 8 (World.laidAll_os _ _ _) (World.shaped_of_ZipB (by kernel_rfl) (by kernel_rfl)) (by kernel_rfl) (by kernel_rfl) (by kernel_rfl) (door_met os _)) ?_
  intro W base args ds gs before hval hW _ hsz hL _
  exact fsEither_contract H enc W base args ds gs before hval hW hsz hL
theorem fsEither_row : Rows.FsEitherSaid :=
  OpenClaim.holds_of_wide 7 Tryd.f7 rfl rfl rfl rfl rfl rfl rfl ⟨rfl, rfl, rfl, rfl, rfl⟩ rfl rfl rfl rfl rfl (by kernel_rfl) Tryd.func7 (by kernel_rfl)
    (of_decide_eq_true (by kernel_rfl)) (by unfold Func.isWrapper; first | (rw [if_pos (by decide +kernel)]; kernel_rfl) | (rw [if_neg (by decide +kernel)]; exact ⟨rfl, rfl⟩))
    (fun os started H enc _ => fsEither_lifted os started H enc)
theorem fsEither_proved : Rows.FsEitherCardSaid :=
  Claim7.holds_tied_plain_at .later [] [.data, .pinned] true Rows.fsEitherCard.stood.harness false
    fsEither_row (fun _ h => by cases h) (by kernel_rfl) (fun _ h => by cases h) fsEither_row_tie rfl ⟨rfl, rfl⟩ (by kernel_rfl) rfl
    (fun f fn hf hfn => by
      obtain rfl : f = 7 := Option.some.inj ((show Tryd.prog.funcNamed "hypostyle/hypostylelaw.FsEither" = some 7 by kernel_rfl).symm.trans hf) |>.symm
      obtain rfl : fn = Tryd.f7 := (Option.some.inj (Tryd.func7.symm.trans hfn)).symm
      exact ⟨by kernel_rfl, fun j t ht => by
        rw [Tryd.params7] at ht
        have hm : t ∈ [25, 9, 28] := by simpa using Array.mem_of_getElem? ht
        have hall : ([25, 9, 28].all fun u => !Tryd.prog.wantsStandIn u) = true := by kernel_rfl
        exact (show Tryd.prog.wantsStandIn t = false by simpa using List.all_eq_true.1 hall t hm)⟩)
    (by kernel_rfl)
end Go.Proofs.YtolhifnlahllnaaDoor
