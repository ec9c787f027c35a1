/- MarksBoole: marksBoole: for every input the law returns true, and each argument reads behind the call as it read before. -/
import Derived.Test.YtikdmnedbfpkeaaDoorRky
import Derived.Test.YtikdmnedbfpkeaaDoorTab
import Derived.Test.YtikdmnedbfpkeaaDoorObm
import Derived.Test.YtikdmnedbfpkeaaDoorTie
import Derived.Test.YtikdmnedbfpkeaaDoorCards
namespace Go.Proofs.YtikdmnedbfpkeaaDoor
open Go.ChangeShapes Go.WideShapes Go.ChangeAt Go.RowKit Hy
open Go.ChangeMaps (open_string)
theorem marksBoole_own : ownKnob Tryd.prog.godebug = none := by kernel_rfl
theorem marksBoole_laid : laidOutB Tryd.prog = true := by kernel_rfl
theorem marksBoole_reads : (Tryd.f8.params.toList.all fun t => Tryd.prog.readableRec t && decide (t < Tryd.prog.types.size)) = true := by kernel_rfl
theorem marksBoole_contract (H : Type) (enc : TypeId × Value → H) (W : World) (base : Nat) (args : Array Value) (ds gs : List (DataW H)) (before : List MemPlace)
    (hval : ∀ (j : Nat) t v, Tryd.f8.params[j]? = some t → args[j]? = some v → Value.okWide Tryd.prog W .any base t v)
    (hW : DataW.Whole enc Tryd.prog Tryd.f8.params.toList Rows.marksBooleSpec.vars false W args.toList ds gs before) (hsz : (DataW.weightsEach Tryd.prog (Tryd.f8.params.toList ++ Rows.marksBooleSpec.plain.varTypes Tryd.prog) (ds ++ gs)).all (· ≤ reachBytes) = true) (hL : laidMetH Tryd.prog laidTab W) :
    Calls Tryd.prog 8 args W fun e W' => ∃ v, e = .returned v ∧ Rows.marksBooleSpec.post enc Tryd.prog Tryd.f8 false true false false W args v W' := by
  have hW' := hW
  obtain ⟨p, q, hA0, hV, rfl, hfz, hnd⟩ := hW
  have hA : DataW.TrodAll enc Tryd.prog W 0 (fun _ => true) true Tryd.f8.params.toList args.toList ds p := hA0
  rw [Tryd.params8] at hA hval
  obtain ⟨v0, vs0, d0, ds0, p0, q0, hargs, rfl, rfl, h0, r0⟩ := trodAll_cons hA
  obtain ⟨v1, vs1, d1, ds1, p1, q1, rfl, rfl, rfl, h1, r1⟩ := trodAll_cons r0
  obtain ⟨rfl, rfl, rfl⟩ := trodAll_nil r1
  obtain rfl : args = #[v0, v1] := by cases args; simp_all
  obtain ⟨rfl, rfl⟩ := trodVars_none hV
  obtain ⟨A0, len0, cap0, l0, rfl, hl0, hc0, hm0, hn0, hrd0, hok0, hd0⟩ := open_list (f := mk1) (m := 1) (fun _ => rfl) (by decide) (g := datMk) (ok := fun _ => True) Tryd.underlying22 (by kernel_rfl) (read_mk Tryd.underlying4) (hval 0 22 v0 rfl rfl) h0
  rw [mk1_bls] at hrd0
  have hz0 := (weights_list Tryd.underlying22 hd0 (weights_each hsz (j := 0) (by rw [Tryd.params8]; rfl) rfl)).1
  rw [show Tryd.prog.bytesOf 4 = 1 from by kernel_rfl, List.length_map] at hz0
  obtain ⟨A1, len1, cap1, l1, rfl, hl1, hc1, hm1, hn1, hrd1, hok1, hd1⟩ := open_list (f := mk1) (m := 1) (fun _ => rfl) (by decide) (g := datMk) (ok := fun _ => True) Tryd.underlying22 (by kernel_rfl) (read_mk Tryd.underlying4) (hval 1 22 v1 rfl rfl) h1
  rw [mk1_bls] at hrd1
  have hz1 := (weights_list Tryd.underlying22 hd1 (weights_each hsz (j := 1) (by rw [Tryd.params8]; rfl) rfl)).1
  rw [show Tryd.prog.bytesOf 4 = 1 from by kernel_rfl, List.length_map] at hz1
  clear hA0
  simp only [List.append_nil] at hW'
  refine Calls.mono (R := fun e W' => e = .returned (.bool true) ∧ Ext W W') ?_ fun e W' ⟨he, hb⟩ => ⟨_, he, law_post marksBoole_laid marksBoole_reads rfl hW' hb rfl Tryd.underlying4 rfl⟩
  have hT := tab_of_laid hL
  unfold reachBytes at *
  exact marksBoole_any l0 l1 A0 A1 len0 len1 cap0 cap1 W hl0 hl1 hrd0 hrd1 hT
set_option maxRecDepth 100000 in
theorem marksBoole_lifted (os : Os) (started : os.Started) (H : Type) (enc : TypeId × Value → H) :
    ReturnsInHanded {} Tryd.checked os 8 .any (fun w args => (Rows.marksBooleSpec.pre enc Tryd.prog Tryd.f8 [] false w args ∧ laidMetH Tryd.prog laidTab w) ∧ sizedMet enc Tryd.prog Tryd.f8 (OpenSpec.ofChange Rows.marksBooleSpec) false w args)
      (Rows.marksBooleSpec.post enc Tryd.prog Tryd.f8 false true false false) := by
  refine returnsInHanded_of_change_and (C := Tryd.checked) (X := fun w _ => laidMetH Tryd.prog laidTab w) (fun _ _ _ hh h => h.of_heap hh) marksBoole_own started (by kernel_rfl) Tryd.func8
    (ChangeSpec.witness_shaped (enc := enc) (C := Tryd.checked) (os := os) (X := fun w _ => laidMetH Tryd.prog laidTab w) false (World.doorLaid Tryd.prog 400 os) #[.slice none 0 0, .slice none 0 0] 8 rfl (World.shaped_of_RefB (by kernel_rfl) (by kernel_rfl)) (by kernel_rfl) (by kernel_rfl) (by kernel_rfl) (door_met os _)) ?_
  intro W base args ds gs before hval hW _ hsz hL _
  exact marksBoole_contract H enc W base args ds gs before hval hW hsz hL
theorem marksBoole_row : Rows.MarksBooleSaid :=
  OpenClaim.holds_of_wide 8 Tryd.f8 rfl rfl rfl rfl rfl rfl rfl ⟨rfl, rfl, rfl, rfl, rfl⟩ rfl rfl rfl rfl rfl (by kernel_rfl) Tryd.func8 (by kernel_rfl)
    (of_decide_eq_true (by kernel_rfl)) (by unfold Func.isWrapper; first | (rw [if_pos (by decide +kernel)]; kernel_rfl) | (rw [if_neg (by decide +kernel)]; exact ⟨rfl, rfl⟩))
    (fun os started H enc _ => marksBoole_lifted os started H enc)
theorem marksBoole_proved : Rows.MarksBooleCardSaid :=
  Claim7.holds_tied_plain_at .later [] [.data] true Rows.marksBooleCard.stood.harness false
    marksBoole_row (fun _ h => by cases h) (by kernel_rfl) (fun _ h => by cases h) marksBoole_row_tie rfl ⟨rfl, rfl⟩ (by kernel_rfl) rfl
    (fun f fn hf hfn => by
      obtain rfl : f = 8 := Option.some.inj ((show Tryd.prog.funcNamed "hypostyle/hypostylelaw.MarksBoole" = some 8 by kernel_rfl).symm.trans hf) |>.symm
      obtain rfl : fn = Tryd.f8 := (Option.some.inj (Tryd.func8.symm.trans hfn)).symm
      exact ⟨by kernel_rfl, fun j t ht => by
        rw [Tryd.params8] at ht
        have hm : t ∈ [22, 22] := by simpa using Array.mem_of_getElem? ht
        have hall : ([22, 22].all fun u => !Tryd.prog.wantsStandIn u) = true := by kernel_rfl
        exact (show Tryd.prog.wantsStandIn t = false by simpa using List.all_eq_true.1 hall t hm)⟩)
    (by kernel_rfl)
end Go.Proofs.YtikdmnedbfpkeaaDoor
