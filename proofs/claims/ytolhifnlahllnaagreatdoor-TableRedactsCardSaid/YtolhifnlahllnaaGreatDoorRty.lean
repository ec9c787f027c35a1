/- TableRedacts: tableRedacts: for every input the law returns true, and each argument reads behind the call as it read before. -/
import Derived.Test.YtolhifnlahllnaaGreatDoorTzy
import Derived.Test.YtolhifnlahllnaaGreatDoorOtb
import Derived.Test.YtolhifnlahllnaaGreatDoorOco
import Derived.Test.YtolhifnlahllnaaGreatDoorOpx
import Derived.Test.YtolhifnlahllnaaGreatDoorTbp
import Derived.Test.YtolhifnlahllnaaGreatDoorTie
import Derived.Test.YtolhifnlahllnaaGreatDoorCards
namespace Go.Proofs.YtolhifnlahllnaaGreatDoor
open Go.ChangeShapes Go.WideShapes Go.ChangeAt Go.RowKit Hy
open Go.ChangeMaps (open_string)
theorem tableRedacts_own : ownKnob Tryz.prog.godebug = none := by kernel_rfl
theorem tableRedacts_laid : laidOutB Tryz.prog = true := by kernel_rfl
theorem tableRedacts_reads : (Tryz.f5.params.toList.all fun t => Tryz.prog.readableRec t && decide (t < Tryz.prog.types.size)) = true := by kernel_rfl
set_option maxRecDepth 100000 in
theorem tableRedacts_contract (H : Type) (enc : TypeId × Value → H) (W : World) (base : Nat) (args : Array Value) (ds gs : List (DataW H)) (before : List MemPlace)
    (hval : ∀ (j : Nat) t v, Tryz.f5.params[j]? = some t → args[j]? = some v → Value.okWide Tryz.prog W .any base t v)
    (hW : DataW.Whole enc Tryz.prog Tryz.f5.params.toList Rows.tableRedactsSpec.vars false W args.toList ds gs before) (hsz : (DataW.weightsEach Tryz.prog (Tryz.f5.params.toList ++ Rows.tableRedactsSpec.plain.varTypes Tryz.prog) (ds ++ gs)).all (· ≤ reachBytes) = true) (_hL : laidMetH Tryz.prog laidTab W) :
    Calls Tryz.prog 5 args W fun e W' => ∃ v, e = .returned v ∧ Rows.tableRedactsSpec.post enc Tryz.prog Tryz.f5 false true false false W args v W' := by
  have hW' := hW
  obtain ⟨p, q, hA0, hV, rfl, hfz, hnd⟩ := hW
  have hA : DataW.TrodAll enc Tryz.prog W 0 (fun _ => true) true Tryz.f5.params.toList args.toList ds p := hA0
  rw [Tryz.params5] at hA hval
  obtain ⟨v0, vs0, d0, ds0, p0, q0, hargs, rfl, rfl, h0, r0⟩ := trodAll_cons hA
  obtain ⟨v1, vs1, d1, ds1, p1, q1, rfl, rfl, rfl, h1, r1⟩ := trodAll_cons r0
  obtain ⟨v2, vs2, d2, ds2, p2, q2, rfl, rfl, rfl, h2, r2⟩ := trodAll_cons r1
  obtain ⟨rfl, rfl, rfl⟩ := trodAll_nil r2
  obtain rfl : args = #[v0, v1, v2] := by cases args; simp_all
  obtain ⟨rfl, rfl⟩ := trodVars_none hV
  obtain ⟨t0, hT0, L0, da0, db0, rfl, hU0, hi0, hj0, hl0⟩ := open_tb (hval 0 25 v0 rfl rfl) h0
  have hb0 := tb_b (weights_each hsz (j := 0) (by rw [Tryz.params5]; rfl) rfl) hU0 hi0 hj0 hl0
  obtain ⟨x1, rfl, rfl, rfl, hm1⟩ := open_string Tryz.underlying9 (hval 1 9 v1 rfl rfl) h1
  have hr1 : x1.data.toList.length ≤ reachBytes := sized_string hsz (j := 1) (t := 9) (by rw [Tryz.params5]; rfl) rfl
  obtain ⟨A2, len2, cap2, l2, rfl, hl2, hc2, hm2, hn2, hrd2, hok2, hd2⟩ := open_list (f := cnd5) (m := 5) (fun _ => rfl) (by decide) (g := datCnd) (ok := okCnd) Tryz.underlying26 (by kernel_rfl) (read_cnd (e := 42) Tryz.underlying58 ⟨rfl, rfl, rfl⟩ ⟨by kernel_rfl, by kernel_rfl, by kernel_rfl⟩ Tryz.underlying3 Tryz.underlying3 rfl Tryz.underlying42 (by kernel_rfl) Tryz.underlying3 Tryz.underlying40 Tryz.underlying9) (hval 2 26 v2 rfl rfl) h2
  have hz2 := (weights_list Tryz.underlying26 hd2 (weights_each hsz (j := 2) (by rw [Tryz.params5]; rfl) rfl)).1
  rw [show Tryz.prog.bytesOf 58 = 48 from by kernel_rfl, List.length_map] at hz2
  clear hA0
  simp only [List.append_nil] at hW'
  refine Calls.mono (R := fun e W' => e = .returned (.bool true) ∧ Ext W W') ?_ fun e W' ⟨he, hb⟩ => ⟨_, he, law_post tableRedacts_laid tableRedacts_reads rfl hW' hb rfl Tryz.underlying4 rfl⟩
  unfold reachBytes at hz2
  exact tableRedacts_any t0 x1 l2 A2 len2 cap2 _ W hT0 hb0 hl2 hrd2 (by omega) hc2
set_option maxRecDepth 100000 in
theorem tableRedacts_lifted (os : Os) (started : os.Started) (H : Type) (enc : TypeId × Value → H) :
    ReturnsInHanded {} Tryz.checked os 5 .any (fun w args => (Rows.tableRedactsSpec.pre enc Tryz.prog Tryz.f5 [] false w args ∧ laidMetH Tryz.prog laidTab w) ∧ sizedMet enc Tryz.prog Tryz.f5 (OpenSpec.ofChange Rows.tableRedactsSpec) false w args)
      (Rows.tableRedactsSpec.post enc Tryz.prog Tryz.f5 false true false false) := by
  refine returnsInHanded_of_change_and (C := Tryz.checked) (X := fun w _ => laidMetH Tryz.prog laidTab w) (fun _ _ _ hh h => h.of_heap hh) tableRedacts_own started (by kernel_rfl) Tryz.func5
    (ChangeSpec.witness_shaped (enc := enc) (C := Tryz.checked) (os := os) (X := fun w _ => laidMetH Tryz.prog laidTab w) false (World.laidAll Tryz.prog os laidTab) #[.agg #[.slice none 0 0, .slice none 0 0], .string .empty, .slice none 0 0] 8 (World.laidAll_os _ _ _) (World.shaped_of_ZipB (by kernel_rfl) (by kernel_rfl)) (by kernel_rfl) (by kernel_rfl) (by kernel_rfl) (door_met os _)) ?_
  intro W base args ds gs before hval hW _ hsz hL _
  exact tableRedacts_contract H enc W base args ds gs before hval hW hsz hL
theorem tableRedacts_row : Rows.TableRedactsSaid :=
  OpenClaim.holds_of_wide 5 Tryz.f5 rfl rfl rfl rfl rfl rfl rfl ⟨rfl, rfl, rfl, rfl, rfl⟩ rfl rfl rfl rfl rfl (by kernel_rfl) Tryz.func5 (by kernel_rfl)
    (of_decide_eq_true (by kernel_rfl)) (by unfold Func.isWrapper; first | (rw [if_pos (by decide +kernel)]; kernel_rfl) | (rw [if_neg (by decide +kernel)]; exact ⟨rfl, rfl⟩))
    (fun os started H enc _ => tableRedacts_lifted os started H enc)
theorem tableRedacts_proved : Rows.TableRedactsCardSaid :=
  Claim7.holds_tied_plain_at .later [] [.data, .pinned] true Rows.tableRedactsCard.stood.harness false
    tableRedacts_row (fun _ h => by cases h) (by kernel_rfl) (fun _ h => by cases h) tableRedacts_row_tie rfl ⟨rfl, rfl⟩ (by kernel_rfl) rfl
    (fun f fn hf hfn => by
      obtain rfl : f = 5 := Option.some.inj ((show Tryz.prog.funcNamed "hypostyle/hypostylelaw.TableRedacts" = some 5 by kernel_rfl).symm.trans hf) |>.symm
      obtain rfl : fn = Tryz.f5 := (Option.some.inj (Tryz.func5.symm.trans hfn)).symm
      exact ⟨by kernel_rfl, fun j t ht => by
        rw [Tryz.params5] at ht
        have hm : t ∈ [25, 9, 26] := by simpa using Array.mem_of_getElem? ht
        have hall : ([25, 9, 26].all fun u => !Tryz.prog.wantsStandIn u) = true := by kernel_rfl
        exact (show Tryz.prog.wantsStandIn t = false by simpa using List.all_eq_true.1 hall t hm)⟩)
    (by kernel_rfl)
end Go.Proofs.YtolhifnlahllnaaGreatDoor
