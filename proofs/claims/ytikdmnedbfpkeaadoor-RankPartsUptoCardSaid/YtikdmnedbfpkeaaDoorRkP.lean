/- RankParts: rankParts: for every input of bulk at most 1048576 the law returns true, and each argument reads behind the call as it read before. -/
import Derived.Test.YtikdmnedbfpkeaaDoorRla
import Derived.Test.YtikdmnedbfpkeaaDoorTab
import Derived.Test.YtikdmnedbfpkeaaDoorObm
import Derived.Test.YtikdmnedbfpkeaaDoorUpl
import Derived.Test.YtikdmnedbfpkeaaDoorTie
import Derived.Test.YtikdmnedbfpkeaaDoorCards
namespace Go.Proofs.YtikdmnedbfpkeaaDoor
open Go.ChangeShapes Go.WideShapes Go.ChangeAt Go.RowKit Hy
open Go.ChangeMaps (open_string)
theorem rankParts_own : ownKnob Tryd.prog.godebug = none := by kernel_rfl
theorem rankParts_laid : laidOutB Tryd.prog = true := by kernel_rfl
theorem rankParts_reads : (Tryd.f5.params.toList.all fun t => Tryd.prog.readableRec t && decide (t < Tryd.prog.types.size)) = true := by kernel_rfl
theorem rankParts_contract (H : Type) (enc : TypeId × Value → H) (W : World) (base : Nat) (args : Array Value) (ds gs : List (DataW H)) (before : List MemPlace)
    (hval : ∀ (j : Nat) t v, Tryd.f5.params[j]? = some t → args[j]? = some v → Value.okWide Tryd.prog W .any base t v)
    (hW : DataW.Whole enc Tryd.prog Tryd.f5.params.toList Rows.rankPartsSpec.vars false W args.toList ds gs before) (hk : Rows.uptoSmall H (ds ++ gs) = true) (hL : laidMetH Tryd.prog laidTab W) :
    Calls Tryd.prog 5 args W fun e W' => ∃ v, e = .returned v ∧ Rows.rankPartsSpec.post enc Tryd.prog Tryd.f5 false true false false W args v W' := by
  have hW' := hW
  obtain ⟨p, q, hA0, hV, rfl, hfz, hnd⟩ := hW
  have hA : DataW.TrodAll enc Tryd.prog W 0 (fun _ => true) true Tryd.f5.params.toList args.toList ds p := hA0
  rw [Tryd.params5] at hA hval
  obtain ⟨v0, vs0, d0, ds0, p0, q0, hargs, rfl, rfl, h0, r0⟩ := trodAll_cons hA
  obtain ⟨v1, vs1, d1, ds1, p1, q1, rfl, rfl, rfl, h1, r1⟩ := trodAll_cons r0
  obtain ⟨v2, vs2, d2, ds2, p2, q2, rfl, rfl, rfl, h2, r2⟩ := trodAll_cons r1
  obtain ⟨rfl, rfl, rfl⟩ := trodAll_nil r2
  obtain rfl : args = #[v0, v1, v2] := by cases args; simp_all
  obtain ⟨rfl, rfl⟩ := trodVars_none hV
  obtain ⟨A0, len0, cap0, l0, rfl, hl0, hc0, hm0, hn0, hrd0, hok0, hd0⟩ := open_list (f := mk1) (m := 1) (fun _ => rfl) (by decide) (g := datMk) (ok := fun _ => True) Tryd.underlying22 (by kernel_rfl) (read_mk Tryd.underlying4) (hval 0 22 v0 rfl rfl) h0
  rw [mk1_bls] at hrd0
  have hz0 := bulk_list hd0
  rw [List.length_map] at hz0
  obtain ⟨A1, len1, cap1, l1, rfl, hl1, hc1, hm1, hn1, hrd1, hok1, hd1⟩ := open_list (f := mk1) (m := 1) (fun _ => rfl) (by decide) (g := datMk) (ok := fun _ => True) Tryd.underlying22 (by kernel_rfl) (read_mk Tryd.underlying4) (hval 1 22 v1 rfl rfl) h1
  rw [mk1_bls] at hrd1
  have hz1 := bulk_list hd1
  rw [List.length_map] at hz1
  obtain ⟨x2, rfl, rfl, rfl, wf2⟩ := open_int Tryd.underlying3 (hval 2 3 v2 rfl rfl) h2
  have bx2 := bounds_i64 wf2
  clear hA0
  simp only [List.append_nil] at hW'
  refine Calls.mono (R := fun e W' => e = .returned (.bool true) ∧ Ext W W') ?_ fun e W' ⟨he, hb⟩ => ⟨_, he, law_post rankParts_laid rankParts_reads rfl hW' hb rfl Tryd.underlying4 rfl⟩
  have hT := tab_of_laid hL
  have hbulk := of_decide_eq_true hk
  simp only [List.cons_append, List.nil_append, Rows.uptoBulkAll, Rows.uptoBulk] at hbulk
  exact rankParts_any l0 l1 x2 A0 A1 len0 len1 cap0 cap1 W hl0 hl1 hrd0 hrd1 (by omega) (by omega) (by omega) (by omega) hT
set_option maxRecDepth 100000 in
theorem rankParts_witness (os : Os) {H : Type} (enc : TypeId × Value → H) :
    (Rows.OpenSpec.upto Rows.rankPartsSpec).preRow enc Tryd.prog Tryd.f5 Rows.rankPartsUptoRow.domain false laidTab ((World.doorLaid Tryd.prog 400 os).forCall (fun _ _ => 0) ⟨#[], #[.slice none 0 0, .slice none 0 0, .int .i64 0], []⟩).memory #[.slice none 0 0, .slice none 0 0, .int .i64 0] := by
  have hw : (DataW.whole enc Tryd.prog ((World.doorLaid Tryd.prog 400 os).forCall (fun _ _ => 0) ⟨#[], #[.slice none 0 0, .slice none 0 0, .int .i64 0], []⟩).memory Tryd.f5.params.toList (Rows.OpenSpec.upto Rows.rankPartsSpec).vars false (#[.slice none 0 0, .slice none 0 0, .int .i64 0] : Array Value).toList 8).map (fun x => (x.1, x.2.1)) =
      some ([.nil, .nil, .lit (.int .i64 0)], []) := by kernel_rfl
  obtain ⟨⟨x1, x2, x3⟩, hx, hx1⟩ := Option.map_eq_some_iff.1 hw
  simp only [Prod.mk.injEq] at hx1
  obtain ⟨rfl, rfl⟩ := hx1
  exact OpenSpec.preRow_of_cond 8 hx (by kernel_rfl) (fun k hk => by obtain rfl := Option.some.inj (show some Rows.uptoSmall = some k from hk); kernel_rfl) (by kernel_rfl) (door_met os _)
theorem rankParts_lifted (os : Os) (started : os.Started) (H : Type) (enc : TypeId × Value → H) (F : Stop.Interp) :
    ReturnsInHanded {} Tryd.checked os 5 .any ((Rows.OpenSpec.upto Rows.rankPartsSpec).preRow enc Tryd.prog Tryd.f5 Rows.rankPartsUptoRow.domain false laidTab) (((Rows.OpenSpec.upto Rows.rankPartsSpec).at F).post enc Tryd.prog Tryd.f5 false true false false) := by
  refine returnsInHanded_of_row (C := Tryd.checked) (s := Rows.OpenSpec.upto Rows.rankPartsSpec) rankParts_own started (by kernel_rfl) Tryd.func5
    (witness_row_atRef (enc := enc) (C := Tryd.checked) false (World.doorLaid Tryd.prog 400 os) #[.slice none 0 0, .slice none 0 0, .int .i64 0] rfl (by kernel_rfl) (by kernel_rfl) (by kernel_rfl) (rankParts_witness os enc)) ?_
  intro W base args ds gs before hval hW _ hk _ hL _ _
  exact rankParts_contract H enc W base args ds gs before hval hW (hk Rows.uptoSmall rfl) hL
theorem rankParts_row : Rows.RankPartsUptoSaid :=
  OpenClaim.holds_of_cond 5 Tryd.f5 rfl rfl rfl rfl rfl rfl rfl ⟨rfl, rfl, rfl, rfl, rfl⟩ rfl rfl rfl rfl rfl (by kernel_rfl) Tryd.func5 (by kernel_rfl)
    (of_decide_eq_true (by kernel_rfl)) (by unfold Func.isWrapper; first | (rw [if_pos (by decide +kernel)]; kernel_rfl) | (rw [if_neg (by decide +kernel)]; exact ⟨rfl, rfl⟩))
    (fun os started H enc _ F => by rw [OpenClaim.pre_eq_preRow]; exact rankParts_lifted os started H enc F)
theorem rankParts_proved : Rows.RankPartsUptoCardSaid :=
  Claim7.holds_tied_plain_at .later [] [.data] true Rows.rankPartsUptoCard.stood.harness false
    rankParts_row (fun _ h => by cases h) (by kernel_rfl) (fun _ h => by cases h) rankPartsUpto_row_tie rfl ⟨rfl, rfl⟩ (by kernel_rfl) rfl
    (fun f fn hf hfn => by
      obtain rfl : f = 5 := Option.some.inj ((show Tryd.prog.funcNamed "hypostyle/hypostylelaw.RankParts" = some 5 by kernel_rfl).symm.trans hf) |>.symm
      obtain rfl : fn = Tryd.f5 := (Option.some.inj (Tryd.func5.symm.trans hfn)).symm
      exact ⟨by kernel_rfl, fun j t ht => by
        rw [Tryd.params5] at ht
        have hm : t ∈ [22, 22, 3] := by simpa using Array.mem_of_getElem? ht
        have hall : ([22, 22, 3].all fun u => !Tryd.prog.wantsStandIn u) = true := by kernel_rfl
        exact (show Tryd.prog.wantsStandIn t = false by simpa using List.all_eq_true.1 hall t hm)⟩)
    (by kernel_rfl)
end Go.Proofs.YtikdmnedbfpkeaaDoor
