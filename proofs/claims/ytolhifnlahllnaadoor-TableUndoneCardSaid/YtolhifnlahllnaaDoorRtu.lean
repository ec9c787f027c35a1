/- TableUndone: tableUndone: for every input the law returns true, and each argument reads behind the call as it read before. -/
import Derived.Test.YtolhifnlahllnaaDoorTkr
import Derived.Test.YtolhifnlahllnaaDoorOtb
import Derived.Test.YtolhifnlahllnaaDoorTbp
import Derived.Test.YtolhifnlahllnaaDoorTie
import Derived.Test.YtolhifnlahllnaaDoorCards
namespace Go.Proofs.YtolhifnlahllnaaDoor
open Go.ChangeShapes Go.WideShapes Go.ChangeAt Go.RowKit Hy
open Go.ChangeMaps (open_string)
theorem tableUndone_own : ownKnob Tryd.prog.godebug = none := by kernel_rfl
theorem tableUndone_laid : laidOutB Tryd.prog = true := by kernel_rfl
theorem tableUndone_reads : (Tryd.f11.params.toList.all fun t => Tryd.prog.readableRec t && decide (t < Tryd.prog.types.size)) = true := by kernel_rfl
set_option maxRecDepth 100000 in
theorem tableUndone_contract (H : Type) (enc : TypeId × Value → H) (W : World) (base : Nat) (args : Array Value) (ds gs : List (DataW H)) (before : List MemPlace)
    (hval : ∀ (j : Nat) t v, Tryd.f11.params[j]? = some t → args[j]? = some v → Value.okWide Tryd.prog W .any base t v)
    (hW : DataW.Whole enc Tryd.prog Tryd.f11.params.toList Rows.tableUndoneSpec.vars false W args.toList ds gs before) (hsz : (DataW.weightsEach Tryd.prog (Tryd.f11.params.toList ++ Rows.tableUndoneSpec.plain.varTypes Tryd.prog) (ds ++ gs)).all (· ≤ reachBytes) = true) (_hL : laidMetH Tryd.prog laidTab W) :
    Calls Tryd.prog 11 args W fun e W' => ∃ v, e = .returned v ∧ Rows.tableUndoneSpec.post enc Tryd.prog Tryd.f11 false true false false W args v W' := by
  have hW' := hW
  obtain ⟨p, q, hA0, hV, rfl, hfz, hnd⟩ := hW
  have hA : DataW.TrodAll enc Tryd.prog W 0 (fun _ => true) true Tryd.f11.params.toList args.toList ds p := hA0
  rw [Tryd.params11] at hA hval
  obtain ⟨v0, vs0, d0, ds0, p0, q0, hargs, rfl, rfl, h0, r0⟩ := trodAll_cons hA
  obtain ⟨v1, vs1, d1, ds1, p1, q1, rfl, rfl, rfl, h1, r1⟩ := trodAll_cons r0
  obtain ⟨v2, vs2, d2, ds2, p2, q2, rfl, rfl, rfl, h2, r2⟩ := trodAll_cons r1
  obtain ⟨v3, vs3, d3, ds3, p3, q3, rfl, rfl, rfl, h3, r3⟩ := trodAll_cons r2
  obtain ⟨rfl, rfl, rfl⟩ := trodAll_nil r3
  obtain rfl : args = #[v0, v1, v2, v3] := by cases args; simp_all
  obtain ⟨rfl, rfl⟩ := trodVars_none hV
  obtain ⟨t0, hT0, L0, da0, db0, rfl, hU0, hi0, hj0, hl0⟩ := open_tb (hval 0 54 v0 rfl rfl) h0
  have hb0 := tb_b (weights_each hsz (j := 0) (by rw [Tryd.params11]; rfl) rfl) hU0 hi0 hj0 hl0
  obtain ⟨c1, rfl, rfl⟩ := open_co Tryd.underlying73 (by kernel_rfl) (by kernel_rfl) Tryd.underlying9 Tryd.underlying3 (hval 1 73 v1 rfl rfl) h1
  have hs1 := weights_each hsz (j := 1) (by rw [Tryd.params11]; rfl) rfl _ (co_w Tryd.underlying73 c1)
  obtain ⟨c2, rfl, rfl, ok2⟩ := open_cel Tryd.underlying60 (by kernel_rfl) (by kernel_rfl) Tryd.underlying3 Tryd.underlying28 Tryd.underlying9 (hval 2 60 v2 rfl rfl) h2
  have hs2 := weights_each hsz (j := 2) (by rw [Tryd.params11]; rfl) rfl _ (cel_weight Tryd.underlying60 c2)
  obtain ⟨x3, rfl, rfl, rfl, hm3⟩ := open_string Tryd.underlying9 (hval 3 9 v3 rfl rfl) h3
  have hr3 : x3.data.toList.length ≤ reachBytes := sized_string hsz (j := 3) (t := 9) (by rw [Tryd.params11]; rfl) rfl
  clear hA0
  simp only [List.append_nil] at hW'
  refine Calls.mono (R := fun e W' => e = .returned (.bool true) ∧ Ext W W') ?_ fun e W' ⟨he, hb⟩ => ⟨_, he, law_post tableUndone_laid tableUndone_reads rfl hW' hb rfl Tryd.underlying4 rfl⟩
  have z3 : x3.size = x3.data.toList.length := by rw [Array.length_toList]; rfl
  unfold reachBytes at hr3 hs1
  obtain ⟨xk, xn, xs⟩ := c2
  obtain ⟨cs, ck⟩ := c1
  exact tableUndone_any t0 cs ck xk xn xs x3 _ W hT0 hb0 (by simp only at hs1; omega) (by omega)
set_option maxRecDepth 100000 in
theorem tableUndone_lifted (os : Os) (started : os.Started) (H : Type) (enc : TypeId × Value → H) :
    ReturnsInHanded {} Tryd.checked os 11 .any (fun w args => (Rows.tableUndoneSpec.pre enc Tryd.prog Tryd.f11 [] false w args ∧ laidMetH Tryd.prog laidTab w) ∧ sizedMet enc Tryd.prog Tryd.f11 (OpenSpec.ofChange Rows.tableUndoneSpec) false w args)
      (Rows.tableUndoneSpec.post enc Tryd.prog Tryd.f11 false true false false) := by
  refine returnsInHanded_of_change_and (C := Tryd.checked) (X := fun w _ => laidMetH Tryd.prog laidTab w) (fun _ _ _ hh h => h.of_heap hh) tableUndone_own started (by kernel_rfl) Tryd.func11
    (ChangeSpec.witness_shaped (enc := enc) (C := Tryd.checked) (os := os) (X := fun w _ => laidMetH Tryd.prog laidTab w) false (World.laidAll Tryd.prog os laidTab) #[.agg #[.slice none 0 0, .slice none 0 0], .agg #[.string .empty, .int .i64 0], .agg #[.int .i64 0, .int .u64 0, .string .empty], .string .empty] 8 (World.laidAll_os _ _ _) (World.shaped_of_ZipB (by kernel_rfl) (by kernel_rfl)) (by kernel_rfl) (by kernel_rfl) (by kernel_rfl) (door_met os _)) ?_
  intro W base args ds gs before hval hW _ hsz hL _
  exact tableUndone_contract H enc W base args ds gs before hval hW hsz hL
theorem tableUndone_row : Rows.TableUndoneSaid :=
  OpenClaim.holds_of_wide 11 Tryd.f11 rfl rfl rfl rfl rfl rfl rfl ⟨rfl, rfl, rfl, rfl, rfl⟩ rfl rfl rfl rfl rfl (by kernel_rfl) Tryd.func11 (by kernel_rfl)
    (of_decide_eq_true (by kernel_rfl)) (by unfold Func.isWrapper; first | (rw [if_pos (by decide +kernel)]; kernel_rfl) | (rw [if_neg (by decide +kernel)]; exact ⟨rfl, rfl⟩))
    (fun os started H enc _ => tableUndone_lifted os started H enc)
theorem tableUndone_proved : Rows.TableUndoneCardSaid :=
  Claim7.holds_tied_plain_at .later [] [.data, .pinned] true Rows.tableUndoneCard.stood.harness false
    tableUndone_row (fun _ h => by cases h) (by kernel_rfl) (fun _ h => by cases h) tableUndone_row_tie rfl ⟨rfl, rfl⟩ (by kernel_rfl) rfl
    (fun f fn hf hfn => by
      obtain rfl : f = 11 := Option.some.inj ((show Tryd.prog.funcNamed "hypostyle/hypostylelaw.TableUndone" = some 11 by kernel_rfl).symm.trans hf) |>.symm
      obtain rfl : fn = Tryd.f11 := (Option.some.inj (Tryd.func11.symm.trans hfn)).symm
      exact ⟨by kernel_rfl, fun j t ht => by
        rw [Tryd.params11] at ht
        have hm : t ∈ [54, 73, 60, 9] := by simpa using Array.mem_of_getElem? ht
        have hall : ([54, 73, 60, 9].all fun u => !Tryd.prog.wantsStandIn u) = true := by kernel_rfl
        exact (show Tryd.prog.wantsStandIn t = false by simpa using List.all_eq_true.1 hall t hm)⟩)
    (by kernel_rfl)
end Go.Proofs.YtolhifnlahllnaaDoor
