/- TableKeeps: tableKeeps: for every input the law returns true, and each argument reads behind the call as it read before. -/
import Derived.Test.YtolhifnlahllnaaDoorTku
import Derived.Test.YtolhifnlahllnaaDoorOtb
import Derived.Test.YtolhifnlahllnaaDoorOco
import Derived.Test.YtolhifnlahllnaaDoorTbp
import Derived.Test.YtolhifnlahllnaaDoorTie
import Derived.Test.YtolhifnlahllnaaDoorCards
namespace Go.Proofs.YtolhifnlahllnaaDoor
open Go.ChangeShapes Go.WideShapes Go.ChangeAt Go.RowKit Hy
open Go.ChangeMaps (open_string)
theorem tableKeeps_own : ownKnob Tryd.prog.godebug = none := by kernel_rfl
theorem tableKeeps_laid : laidOutB Tryd.prog = true := by kernel_rfl
theorem tableKeeps_reads : (Tryd.f8.params.toList.all fun t => Tryd.prog.readableRec t && decide (t < Tryd.prog.types.size)) = true := by kernel_rfl
set_option maxRecDepth 100000 in
theorem tableKeeps_contract (H : Type) (enc : TypeId × Value → H) (W : World) (base : Nat) (args : Array Value) (ds gs : List (DataW H)) (before : List MemPlace)
    (hval : ∀ (j : Nat) t v, Tryd.f8.params[j]? = some t → args[j]? = some v → Value.okWide Tryd.prog W .any base t v)
    (hW : DataW.Whole enc Tryd.prog Tryd.f8.params.toList Rows.tableKeepsSpec.vars false W args.toList ds gs before) (hsz : (DataW.weightsEach Tryd.prog (Tryd.f8.params.toList ++ Rows.tableKeepsSpec.plain.varTypes Tryd.prog) (ds ++ gs)).all (· ≤ reachBytes) = true) (_hL : laidMetH Tryd.prog laidTab W) :
    Calls Tryd.prog 8 args W fun e W' => ∃ v, e = .returned v ∧ Rows.tableKeepsSpec.post enc Tryd.prog Tryd.f8 false true false false W args v W' := by
  have hW' := hW
  obtain ⟨p, q, hA0, hV, rfl, hfz, hnd⟩ := hW
  have hA : DataW.TrodAll enc Tryd.prog W 0 (fun _ => true) true Tryd.f8.params.toList args.toList ds p := hA0
  rw [Tryd.params8] at hA hval
  obtain ⟨v0, vs0, d0, ds0, p0, q0, hargs, rfl, rfl, h0, r0⟩ := trodAll_cons hA
  obtain ⟨v1, vs1, d1, ds1, p1, q1, rfl, rfl, rfl, h1, r1⟩ := trodAll_cons r0
  obtain ⟨v2, vs2, d2, ds2, p2, q2, rfl, rfl, rfl, h2, r2⟩ := trodAll_cons r1
  obtain ⟨rfl, rfl, rfl⟩ := trodAll_nil r2
  obtain rfl : args = #[v0, v1, v2] := by cases args; simp_all
  obtain ⟨rfl, rfl⟩ := trodVars_none hV
  obtain ⟨t0, hT0, L0, da0, db0, rfl, hU0, hi0, hj0, hl0⟩ := open_tb (hval 0 54 v0 rfl rfl) h0
  have hb0 := tb_b (weights_each hsz (j := 0) (by rw [Tryd.params8]; rfl) rfl) hU0 hi0 hj0 hl0
  obtain ⟨A1, len1, cap1, l1, rfl, hl1, hc1, hm1, hn1, hrd1, hok1, hd1⟩ := open_list (f := cnd5) (m := 5) (fun _ => rfl) (by decide) (g := datCnd) (ok := okCnd) Tryd.underlying55 (by kernel_rfl) (read_cnd (e := 60) Tryd.underlying62 ⟨rfl, rfl, rfl⟩ ⟨by kernel_rfl, by kernel_rfl, by kernel_rfl⟩ Tryd.underlying3 Tryd.underlying3 rfl Tryd.underlying60 (by kernel_rfl) Tryd.underlying3 Tryd.underlying28 Tryd.underlying9) (hval 1 55 v1 rfl rfl) h1
  have hz1 := (weights_list Tryd.underlying55 hd1 (weights_each hsz (j := 1) (by rw [Tryd.params8]; rfl) rfl)).1
  rw [show Tryd.prog.bytesOf 62 = 48 from by kernel_rfl, List.length_map] at hz1
  obtain ⟨A2, len2, cap2, l2, rfl, hl2, hc2, hm2, hn2, hrd2, hok2, hd2⟩ := open_list (f := cnd5) (m := 5) (fun _ => rfl) (by decide) (g := datCnd) (ok := okCnd) Tryd.underlying55 (by kernel_rfl) (read_cnd (e := 60) Tryd.underlying62 ⟨rfl, rfl, rfl⟩ ⟨by kernel_rfl, by kernel_rfl, by kernel_rfl⟩ Tryd.underlying3 Tryd.underlying3 rfl Tryd.underlying60 (by kernel_rfl) Tryd.underlying3 Tryd.underlying28 Tryd.underlying9) (hval 2 55 v2 rfl rfl) h2
  have hz2 := (weights_list Tryd.underlying55 hd2 (weights_each hsz (j := 2) (by rw [Tryd.params8]; rfl) rfl)).1
  rw [show Tryd.prog.bytesOf 62 = 48 from by kernel_rfl, List.length_map] at hz2
  clear hA0
  simp only [List.append_nil] at hW'
  refine Calls.mono (R := fun e W' => e = .returned (.bool true) ∧ Ext W W') ?_ fun e W' ⟨he, hb⟩ => ⟨_, he, law_post tableKeeps_laid tableKeeps_reads rfl hW' hb rfl Tryd.underlying4 rfl⟩
  unfold reachBytes at hz1 hz2
  exact tableKeeps_any t0 l1 l2 A1 A2 len1 cap1 len2 cap2 _ W hT0 hb0 hl1 hrd1 (by omega) hn1 hl2 hrd2 (by omega) hn2
set_option maxRecDepth 100000 in
theorem tableKeeps_lifted (os : Os) (started : os.Started) (H : Type) (enc : TypeId × Value → H) :
    ReturnsInHanded {} Tryd.checked os 8 .any (fun w args => (Rows.tableKeepsSpec.pre enc Tryd.prog Tryd.f8 [] false w args ∧ laidMetH Tryd.prog laidTab w) ∧ sizedMet enc Tryd.prog Tryd.f8 (OpenSpec.ofChange Rows.tableKeepsSpec) false w args)
      (Rows.tableKeepsSpec.post enc Tryd.prog Tryd.f8 false true false false) := by
  refine returnsInHanded_of_change_and (C := Tryd.checked) (X := fun w _ => laidMetH Tryd.prog laidTab w) (fun _ _ _ hh h => h.of_heap hh) tableKeeps_own started (by kernel_rfl) Tryd.func8
    (ChangeSpec.witness_shaped (enc := enc) (C := Tryd.checked) (os := os) (X := fun w _ => laidMetH Tryd.prog laidTab w) false (World.laidAll Tryd.prog os laidTab) #[.agg #[.slice none 0 0, .slice none 0 0], .slice none 0 0, .slice none 0 0] 8 (World.laidAll_os _ _ _) (World.shaped_of_ZipB (by kernel_rfl) (by kernel_rfl)) (by kernel_rfl) (by kernel_rfl) (by kernel_rfl) (door_met os _)) ?_
  intro W base args ds gs before hval hW _ hsz hL _
  exact tableKeeps_contract H enc W base args ds gs before hval hW hsz hL
theorem tableKeeps_row : Rows.TableKeepsSaid :=
  OpenClaim.holds_of_wide 8 Tryd.f8 rfl rfl rfl rfl rfl rfl rfl ⟨rfl, rfl, rfl, rfl, rfl⟩ rfl rfl rfl rfl rfl (by kernel_rfl) Tryd.func8 (by kernel_rfl)
    (of_decide_eq_true (by kernel_rfl)) (by unfold Func.isWrapper; first | (rw [if_pos (by decide +kernel)]; kernel_rfl) | (rw [if_neg (by decide +kernel)]; exact ⟨rfl, rfl⟩))
    (fun os started H enc _ => tableKeeps_lifted os started H enc)
theorem tableKeeps_proved : Rows.TableKeepsCardSaid :=
  Claim7.holds_tied_plain_at .later [] [.data, .pinned] true Rows.tableKeepsCard.stood.harness false
    tableKeeps_row (fun _ h => by cases h) (by kernel_rfl) (fun _ h => by cases h) tableKeeps_row_tie rfl ⟨rfl, rfl⟩ (by kernel_rfl) rfl
    (fun f fn hf hfn => by
      obtain rfl : f = 8 := Option.some.inj ((show Tryd.prog.funcNamed "hypostyle/hypostylelaw.TableKeeps" = some 8 by kernel_rfl).symm.trans hf) |>.symm
      obtain rfl : fn = Tryd.f8 := (Option.some.inj (Tryd.func8.symm.trans hfn)).symm
      exact ⟨by kernel_rfl, fun j t ht => by
        rw [Tryd.params8] at ht
        have hm : t ∈ [54, 55, 55] := by simpa using Array.mem_of_getElem? ht
        have hall : ([54, 55, 55].all fun u => !Tryd.prog.wantsStandIn u) = true := by kernel_rfl
        exact (show Tryd.prog.wantsStandIn t = false by simpa using List.all_eq_true.1 hall t hm)⟩)
    (by kernel_rfl)
end Go.Proofs.YtolhifnlahllnaaDoor
