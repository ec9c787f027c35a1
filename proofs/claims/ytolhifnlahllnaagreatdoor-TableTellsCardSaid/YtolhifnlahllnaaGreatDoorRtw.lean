/- TableTells: tableTells: for every input the law returns true, and each argument reads behind the call as it read before. -/
import Derived.Test.YtolhifnlahllnaaGreatDoorTzw
import Derived.Test.YtolhifnlahllnaaGreatDoorOtb
import Derived.Test.YtolhifnlahllnaaGreatDoorOpx
import Derived.Test.YtolhifnlahllnaaGreatDoorTbp
import Derived.Test.YtolhifnlahllnaaGreatDoorTie
import Derived.Test.YtolhifnlahllnaaGreatDoorCards
namespace Go.Proofs.YtolhifnlahllnaaGreatDoor
open Go.ChangeShapes Go.WideShapes Go.ChangeAt Go.RowKit Hy
open Go.ChangeMaps (open_string)
theorem tableTells_own : ownKnob Tryz.prog.godebug = none := by kernel_rfl
theorem tableTells_laid : laidOutB Tryz.prog = true := by kernel_rfl
theorem tableTells_reads : (Tryz.f4.params.toList.all fun t => Tryz.prog.readableRec t && decide (t < Tryz.prog.types.size)) = true := by kernel_rfl
set_option maxRecDepth 100000 in
theorem tableTells_contract (H : Type) (enc : TypeId × Value → H) (W : World) (base : Nat) (args : Array Value) (ds gs : List (DataW H)) (before : List MemPlace)
    (hval : ∀ (j : Nat) t v, Tryz.f4.params[j]? = some t → args[j]? = some v → Value.okWide Tryz.prog W .any base t v)
    (hW : DataW.Whole enc Tryz.prog Tryz.f4.params.toList Rows.tableTellsSpec.vars false W args.toList ds gs before) (hsz : (DataW.weightsEach Tryz.prog (Tryz.f4.params.toList ++ Rows.tableTellsSpec.plain.varTypes Tryz.prog) (ds ++ gs)).all (· ≤ reachBytes) = true) (_hL : laidMetH Tryz.prog laidTab W) :
    Calls Tryz.prog 4 args W fun e W' => ∃ v, e = .returned v ∧ Rows.tableTellsSpec.post enc Tryz.prog Tryz.f4 false true false false W args v W' := by
  have hW' := hW
  obtain ⟨p, q, hA0, hV, rfl, hfz, hnd⟩ := hW
  have hA : DataW.TrodAll enc Tryz.prog W 0 (fun _ => true) true Tryz.f4.params.toList args.toList ds p := hA0
  rw [Tryz.params4] at hA hval
  obtain ⟨v0, vs0, d0, ds0, p0, q0, hargs, rfl, rfl, h0, r0⟩ := trodAll_cons hA
  obtain ⟨v1, vs1, d1, ds1, p1, q1, rfl, rfl, rfl, h1, r1⟩ := trodAll_cons r0
  obtain ⟨v2, vs2, d2, ds2, p2, q2, rfl, rfl, rfl, h2, r2⟩ := trodAll_cons r1
  obtain ⟨v3, vs3, d3, ds3, p3, q3, rfl, rfl, rfl, h3, r3⟩ := trodAll_cons r2
  obtain ⟨v4, vs4, d4, ds4, p4, q4, rfl, rfl, rfl, h4, r4⟩ := trodAll_cons r3
  obtain ⟨rfl, rfl, rfl⟩ := trodAll_nil r4
  obtain rfl : args = #[v0, v1, v2, v3, v4] := by cases args; simp_all
  obtain ⟨rfl, rfl⟩ := trodVars_none hV
  obtain ⟨t0, hT0, L0, da0, db0, rfl, hU0, hi0, hj0, hl0⟩ := open_tb (hval 0 25 v0 rfl rfl) h0
  have hb0 := tb_b (weights_each hsz (j := 0) (by rw [Tryz.params4]; rfl) rfl) hU0 hi0 hj0 hl0
  obtain ⟨c1, rfl, rfl⟩ := open_co Tryz.underlying39 (by kernel_rfl) (by kernel_rfl) Tryz.underlying9 Tryz.underlying3 (hval 1 39 v1 rfl rfl) h1
  have hs1 := weights_each hsz (j := 1) (by rw [Tryz.params4]; rfl) rfl _ (co_w Tryz.underlying39 c1)
  obtain ⟨c2, rfl, rfl, ok2⟩ := open_cel Tryz.underlying42 (by kernel_rfl) (by kernel_rfl) Tryz.underlying3 Tryz.underlying40 Tryz.underlying9 (hval 2 42 v2 rfl rfl) h2
  have hs2 := weights_each hsz (j := 2) (by rw [Tryz.params4]; rfl) rfl _ (cel_weight Tryz.underlying42 c2)
  obtain ⟨x3, rfl, rfl, rfl, hm3⟩ := open_string Tryz.underlying9 (hval 3 9 v3 rfl rfl) h3
  have hr3 : x3.data.toList.length ≤ reachBytes := sized_string hsz (j := 3) (t := 9) (by rw [Tryz.params4]; rfl) rfl
  obtain ⟨x4, rfl, rfl, rfl, wf4⟩ := open_int Tryz.underlying3 (hval 4 3 v4 rfl rfl) h4
  have bx4 := bounds_i64 wf4
  clear hA0
  simp only [List.append_nil] at hW'
  refine Calls.mono (R := fun e W' => e = .returned (.bool true) ∧ Ext W W') ?_ fun e W' ⟨he, hb⟩ => ⟨_, he, law_post tableTells_laid tableTells_reads rfl hW' hb rfl Tryz.underlying4 rfl⟩
  have z3 : x3.size = x3.data.toList.length := by rw [Array.length_toList]; rfl
  unfold reachBytes at hr3 hs1
  obtain ⟨xk, xn, xs⟩ := c2
  obtain ⟨cs, ck⟩ := c1
  exact tableTells_any t0 cs ck xk xn xs x3 x4 _ W hT0 hb0 (by simp only at hs1; omega) (by omega)
set_option maxRecDepth 100000 in
theorem tableTells_lifted (os : Os) (started : os.Started) (H : Type) (enc : TypeId × Value → H) :
    ReturnsInHanded {} Tryz.checked os 4 .any (fun w args => (Rows.tableTellsSpec.pre enc Tryz.prog Tryz.f4 [] false w args ∧ laidMetH Tryz.prog laidTab w) ∧ sizedMet enc Tryz.prog Tryz.f4 (OpenSpec.ofChange Rows.tableTellsSpec) false w args)
      (Rows.tableTellsSpec.post enc Tryz.prog Tryz.f4 false true false false) := by
  refine returnsInHanded_of_change_and (C := Tryz.checked) (X := fun w _ => laidMetH Tryz.prog laidTab w) (fun _ _ _ hh h => h.of_heap hh) tableTells_own started (by kernel_rfl) Tryz.func4
    (ChangeSpec.witness_shaped (enc := enc) (C := Tryz.checked) (os := os) (X := fun w _ => laidMetH Tryz.prog laidTab w) false (World.laidAll Tryz.prog os laidTab) #[.agg #[.slice none 0 0, .slice none 0 0], .agg #[.string .empty, .int .i64 0], .agg #[.int .i64 0, .int .u64 0, .string .empty], .string .empty, .int .i64 0] 8 (World.laidAll_os _ _ _) (World.shaped_of_ZipB (by kernel_rfl) (by kernel_rfl)) (by kernel_rfl) (by kernel_rfl) (by kernel_rfl) (door_met os _)) ?_
  intro W base args ds gs before hval hW _ hsz hL _
  exact tableTells_contract H enc W base args ds gs before hval hW hsz hL
theorem tableTells_row : Rows.TableTellsSaid :=
  OpenClaim.holds_of_wide 4 Tryz.f4 rfl rfl rfl rfl rfl rfl rfl ⟨rfl, rfl, rfl, rfl, rfl⟩ rfl rfl rfl rfl rfl (by kernel_rfl) Tryz.func4 (by kernel_rfl)
    (of_decide_eq_true (by kernel_rfl)) (by unfold Func.isWrapper; first | (rw [if_pos (by decide +kernel)]; kernel_rfl) | (rw [if_neg (by decide +kernel)]; exact ⟨rfl, rfl⟩))
    (fun os started H enc _ => tableTells_lifted os started H enc)
theorem tableTells_proved : Rows.TableTellsCardSaid :=
  Claim7.holds_tied_plain_at .later [] [.data, .pinned] true Rows.tableTellsCard.stood.harness false
    tableTells_row (fun _ h => by cases h) (by kernel_rfl) (fun _ h => by cases h) tableTells_row_tie rfl ⟨rfl, rfl⟩ (by kernel_rfl) rfl
    (fun f fn hf hfn => by
      obtain rfl : f = 4 := Option.some.inj ((show Tryz.prog.funcNamed "hypostyle/hypostylelaw.TableTells" = some 4 by kernel_rfl).symm.trans hf) |>.symm
      obtain rfl : fn = Tryz.f4 := (Option.some.inj (Tryz.func4.symm.trans hfn)).symm
      exact ⟨by kernel_rfl, fun j t ht => by
        rw [Tryz.params4] at ht
        have hm : t ∈ [25, 39, 42, 9, 3] := by simpa using Array.mem_of_getElem? ht
        have hall : ([25, 39, 42, 9, 3].all fun u => !Tryz.prog.wantsStandIn u) = true := by kernel_rfl
        exact (show Tryz.prog.wantsStandIn t = false by simpa using List.all_eq_true.1 hall t hm)⟩)
    (by kernel_rfl)
end Go.Proofs.YtolhifnlahllnaaGreatDoor
