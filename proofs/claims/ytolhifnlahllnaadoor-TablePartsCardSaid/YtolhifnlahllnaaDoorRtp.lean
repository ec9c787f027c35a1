/- TableParts: tableParts: for every input the law returns true, and each argument reads behind the call as it read before. -/
import Derived.Test.YtolhifnlahllnaaDoorTks
import Derived.Test.YtolhifnlahllnaaDoorOtb
import Derived.Test.YtolhifnlahllnaaDoorOco
import Derived.Test.YtolhifnlahllnaaDoorTbp
import Derived.Test.YtolhifnlahllnaaDoorTie
import Derived.Test.YtolhifnlahllnaaDoorCards
namespace Go.Proofs.YtolhifnlahllnaaDoor
open Go.ChangeShapes Go.WideShapes Go.ChangeAt Go.RowKit Hy
open Go.ChangeMaps (open_string)
theorem tableParts_own : ownKnob Tryd.prog.godebug = none := by kernel_rfl
theorem tableParts_laid : laidOutB Tryd.prog = true := by kernel_rfl
theorem tableParts_reads : (Tryd.f9.params.toList.all fun t => Tryd.prog.readableRec t && decide (t < Tryd.prog.types.size)) = true := by kernel_rfl
set_option maxRecDepth 100000 in
theorem tableParts_contract (H : Type) (enc : TypeId × Value → H) (W : World) (base : Nat) (args : Array Value) (ds gs : List (DataW H)) (before : List MemPlace)
    (hval : ∀ (j : Nat) t v, Tryd.f9.params[j]? = some t → args[j]? = some v → Value.okWide Tryd.prog W .any base t v)
    (hW : DataW.Whole enc Tryd.prog Tryd.f9.params.toList Rows.tablePartsSpec.vars false W args.toList ds gs before) (hsz : (DataW.weightsEach Tryd.prog (Tryd.f9.params.toList ++ Rows.tablePartsSpec.plain.varTypes Tryd.prog) (ds ++ gs)).all (· ≤ reachBytes) = true) (_hL : laidMetH Tryd.prog laidTab W) :
    Calls Tryd.prog 9 args W fun e W' => ∃ v, e = .returned v ∧ Rows.tablePartsSpec.post enc Tryd.prog Tryd.f9 false true false false W args v W' := by
  have hW' := hW
  obtain ⟨p, q, hA0, hV, rfl, hfz, hnd⟩ := hW
  have hA : DataW.TrodAll enc Tryd.prog W 0 (fun _ => true) true Tryd.f9.params.toList args.toList ds p := hA0
  rw [Tryd.params9] at hA hval
  obtain ⟨v0, vs0, d0, ds0, p0, q0, hargs, rfl, rfl, h0, r0⟩ := trodAll_cons hA
  obtain ⟨v1, vs1, d1, ds1, p1, q1, rfl, rfl, rfl, h1, r1⟩ := trodAll_cons r0
  obtain ⟨v2, vs2, d2, ds2, p2, q2, rfl, rfl, rfl, h2, r2⟩ := trodAll_cons r1
  obtain ⟨rfl, rfl, rfl⟩ := trodAll_nil r2
  obtain rfl : args = #[v0, v1, v2] := by cases args; simp_all
  obtain ⟨rfl, rfl⟩ := trodVars_none hV
  obtain ⟨t0, hT0, L0, da0, db0, rfl, hU0, hi0, hj0, hl0⟩ := open_tb (hval 0 54 v0 rfl rfl) h0
  have hb0 := tb_b (weights_each hsz (j := 0) (by rw [Tryd.params9]; rfl) rfl) hU0 hi0 hj0 hl0
  obtain ⟨x1, rfl, rfl, rfl, wf1⟩ := open_int Tryd.underlying3 (hval 1 3 v1 rfl rfl) h1
  have bx1 := bounds_i64 wf1
  obtain ⟨A2, len2, cap2, l2, rfl, hl2, hc2, hm2, hn2, hrd2, hok2, hd2⟩ := open_list (f := cnd5) (m := 5) (fun _ => rfl) (by decide) (g := datCnd) (ok := okCnd) Tryd.underlying55 (by kernel_rfl) (read_cnd (e := 60) Tryd.underlying62 ⟨rfl, rfl, rfl⟩ ⟨by kernel_rfl, by kernel_rfl, by kernel_rfl⟩ Tryd.underlying3 Tryd.underlying3 rfl Tryd.underlying60 (by kernel_rfl) Tryd.underlying3 Tryd.underlying28 Tryd.underlying9) (hval 2 55 v2 rfl rfl) h2
  have hz2 := (weights_list Tryd.underlying55 hd2 (weights_each hsz (j := 2) (by rw [Tryd.params9]; rfl) rfl)).1
  rw [show Tryd.prog.bytesOf 62 = 48 from by kernel_rfl, List.length_map] at hz2
  clear hA0
  simp only [List.append_nil] at hW'
  refine Calls.mono (R := fun e W' => e = .returned (.bool true) ∧ Ext W W') ?_ fun e W' ⟨he, hb⟩ => ⟨_, he, law_post tableParts_laid tableParts_reads rfl hW' hb rfl Tryd.underlying4 rfl⟩
  unfold reachBytes at hz2
  exact tableParts_any t0 x1 l2 A2 len2 cap2 _ W hT0 hb0 hl2 hrd2 (by omega)
set_option maxRecDepth 100000 in
theorem tableParts_lifted (os : Os) (started : os.Started) (H : Type) (enc : TypeId × Value → H) :
    ReturnsInHanded {} Tryd.checked os 9 .any (fun w args => (Rows.tablePartsSpec.pre enc Tryd.prog Tryd.f9 [] false w args ∧ laidMetH Tryd.prog laidTab w) ∧ sizedMet enc Tryd.prog Tryd.f9 (OpenSpec.ofChange Rows.tablePartsSpec) false w args)
      (Rows.tablePartsSpec.post enc Tryd.prog Tryd.f9 false true false false) := by
  refine returnsInHanded_of_change_and (C := Tryd.checked) (X := fun w _ => laidMetH Tryd.prog laidTab w) (fun _ _ _ hh h => h.of_heap hh) tableParts_own started (by kernel_rfl) Tryd.func9
    (ChangeSpec.witness_shaped (enc := enc) (C := Tryd.checked) (os := os) (X := fun w _ => laidMetH Tryd.prog laidTab w) false (World.laidAll Tryd.prog os laidTab) #[.agg #[.slice none 0 0, .slice none 0 0], .int .i64 0, .slice none 0 0] 8 (World.laidAll_os _ _ _) (World.shaped_of_ZipB (by kernel_rfl) (by kernel_rfl)) (by kernel_rfl) (by kernel_rfl) (by kernel_rfl) (door_met os _)) ?_
  intro W base args ds gs before hval hW _ hsz hL _
  exact tableParts_contract H enc W base args ds gs before hval hW hsz hL
theorem tableParts_row : Rows.TablePartsSaid :=
  OpenClaim.holds_of_wide 9 Tryd.f9 rfl rfl rfl rfl rfl rfl rfl ⟨rfl, rfl, rfl, rfl, rfl⟩ rfl rfl rfl rfl rfl (by kernel_rfl) Tryd.func9 (by kernel_rfl)
    (of_decide_eq_true (by kernel_rfl)) (by unfold Func.isWrapper; first | (rw [if_pos (by decide +kernel)]; kernel_rfl) | (rw [if_neg (by decide +kernel)]; exact ⟨rfl, rfl⟩))
    (fun os started H enc _ => tableParts_lifted os started H enc)
theorem tableParts_proved : Rows.TablePartsCardSaid :=
  Claim7.holds_tied_plain_at .later [] [.data, .pinned] true Rows.tablePartsCard.stood.harness false
    tableParts_row (fun _ h => by cases h) (by kernel_rfl) (fun _ h => by cases h) tableParts_row_tie rfl ⟨rfl, rfl⟩ (by kernel_rfl) rfl
    (fun f fn hf hfn => by
      obtain rfl : f = 9 := Option.some.inj ((show Tryd.prog.funcNamed "hypostyle/hypostylelaw.TableParts" = some 9 by kernel_rfl).symm.trans hf) |>.symm
      obtain rfl : fn = Tryd.f9 := (Option.some.inj (Tryd.func9.symm.trans hfn)).symm
      exact ⟨by kernel_rfl, fun j t ht => by
        rw [Tryd.params9] at ht
        have hm : t ∈ [54, 3, 55] := by simpa using Array.mem_of_getElem? ht
        have hall : ([54, 3, 55].all fun u => !Tryd.prog.wantsStandIn u) = true := by kernel_rfl
        exact (show Tryd.prog.wantsStandIn t = false by simpa using List.all_eq_true.1 hall t hm)⟩)
    (by kernel_rfl)
end Go.Proofs.YtolhifnlahllnaaDoor
