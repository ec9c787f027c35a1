/- BloomNever: bloomNever: for every input of bulk at most 1048576 the law returns true, and each argument reads behind the call as it read before. -/
import Derived.Test.YtiamfjfbmgijhaaRowk
import Derived.Test.YtiamfjfbmgijhaaOpen
import Derived.Test.YtiamfjfbmgijhaaBnv
namespace Go.Proofs.Ytiamfjfbmgijhaa
open Go.ChangeShapes Go.WideShapes Go.ChangeAt Go.RowKit Hy
open Go.ChangeMaps (open_string)
theorem bloomNever_own : ownKnob Try.prog.godebug = none := by kernel_rfl
theorem bloomNever_laid : laidOutB Try.prog = true := by kernel_rfl
theorem bloomNever_reads : (Try.f3.params.toList.all fun t => Try.prog.readableRec t && decide (t < Try.prog.types.size)) = true := by kernel_rfl
theorem bloomNever_contract (H : Type) (enc : TypeId × Value → H) (W : World) (base : Nat) (args : Array Value) (ds gs : List (DataW H)) (before : List MemPlace)
    (hval : ∀ (j : Nat) t v, Try.f3.params[j]? = some t → args[j]? = some v → Value.okWide Try.prog W .any base t v)
    (hW : DataW.Whole enc Try.prog Try.f3.params.toList Rows.bloomNeverSpec.vars false W args.toList ds gs before) (hk : Rows.uptoSmall H (ds ++ gs) = true) :
    Calls Try.prog 3 args W fun e W' => ∃ v, e = .returned v ∧ Rows.bloomNeverSpec.post enc Try.prog Try.f3 false true false false W args v W' := by
  have hW' := hW
  obtain ⟨p, q, hA0, hV, rfl, hfz, hnd⟩ := hW
  have hA : DataW.TrodAll enc Try.prog W 0 (fun _ => true) true Try.f3.params.toList args.toList ds p := hA0
  rw [Try.params3] at hA hval
  obtain ⟨v0, vs0, d0, ds0, p0, q0, hargs, rfl, rfl, h0, r0⟩ := trodAll_cons hA
  obtain ⟨v1, vs1, d1, ds1, p1, q1, rfl, rfl, rfl, h1, r1⟩ := trodAll_cons r0
  obtain ⟨v2, vs2, d2, ds2, p2, q2, rfl, rfl, rfl, h2, r2⟩ := trodAll_cons r1
  obtain ⟨v3, vs3, d3, ds3, p3, q3, rfl, rfl, rfl, h3, r3⟩ := trodAll_cons r2
  obtain ⟨rfl, rfl, rfl⟩ := trodAll_nil r3
  obtain rfl : args = #[v0, v1, v2, v3] := by cases args; simp_all
  obtain ⟨rfl, rfl⟩ := trodVars_none hV
  obtain ⟨f0, fo0, rfl, rfl⟩ := open_four Try.underlying23 Try.underlying22 (by kernel_rfl) (by kernel_rfl) (hval 0 23 v0 rfl rfl) h0
  obtain ⟨A1, len1, cap1, l1, rfl, hl1, hc1, hm1, hrd1, hok1, hd1⟩ := open_cells Try.underlying24 Try.underlying26 (by kernel_rfl) (by kernel_rfl) Try.underlying3 Try.underlying22 Try.underlying9 (hval 1 24 v1 rfl rfl) h1
  obtain ⟨A2, len2, cap2, l2, rfl, hl2, hc2, hm2, hrd2, hok2, hd2⟩ := open_cells Try.underlying24 Try.underlying26 (by kernel_rfl) (by kernel_rfl) Try.underlying3 Try.underlying22 Try.underlying9 (hval 2 24 v2 rfl rfl) h2
  obtain ⟨c3, rfl, rfl, hn3, hs3⟩ := open_cell Try.underlying26 (by kernel_rfl) (by kernel_rfl) Try.underlying3 Try.underlying22 Try.underlying9 (hval 3 26 v3 rfl rfl) h3
  clear hA0
  simp only [List.append_nil] at hW'
  refine Calls.mono (R := fun e W' => e = .returned (.bool true) ∧ Ext W W') ?_ fun e W' ⟨he, hb⟩ => ⟨_, he, law_post bloomNever_laid bloomNever_reads rfl hW' hb rfl Try.underlying4 rfl⟩
  have hbulk := of_decide_eq_true hk
  simp only [List.append_nil, Rows.uptoBulkAll] at hbulk
  obtain ⟨m1, n1⟩ := bulk_cells hd1
  obtain ⟨m2, n2⟩ := bulk_cells hd2
  have m3 := bulk_c (H := H) c3
  simp only [datC] at m3
  exact bnever_core f0 l1 l2 A1 A2 len1 len2 cap1 cap2 c3.k c3.n c3.s W fo0 hl1 hl2 hrd1 hrd2 (by omega) (by omega) (fun c hc => ⟨(hok1 c hc).1, by have := n1 c hc; omega⟩) (fun c hc => ⟨(hok2 c hc).1, by have := n2 c hc; omega⟩) hn3 (by omega)
set_option maxRecDepth 100000 in
theorem bloomNever_lifted (os : Os) (started : os.Started) (H : Type) (enc : TypeId × Value → H) (F : Stop.Interp) :
    ReturnsInHanded {} Try.checked os 3 .any ((Rows.OpenSpec.upto Rows.bloomNeverSpec).pre6 enc Try.prog Try.f3 Rows.bloomNeverUptoRow.domain false) (((Rows.OpenSpec.upto Rows.bloomNeverSpec).at F).post enc Try.prog Try.f3 false true false false) := by
  refine returnsInHanded_of_cond (C := Try.checked) (s := Rows.OpenSpec.upto Rows.bloomNeverSpec) (k := Rows.uptoSmall) rfl bloomNever_own started (by kernel_rfl) Try.func3
    (OpenSpec.witness (enc := enc) (C := Try.checked) (s := Rows.OpenSpec.upto Rows.bloomNeverSpec) (k := Rows.uptoSmall) rfl false ⟨#[], #[.agg #[.int .u64 0, .int .u64 0, .int .u64 0, .int .u64 0], .slice none 0 0, .slice none 0 0, .agg #[.int .i64 0, .int .u64 0, .string .empty]], []⟩ 8 (by kernel_rfl) (by kernel_rfl) (by kernel_rfl)
      (x := ([.agg [.lit (.int .u64 0), .lit (.int .u64 0), .lit (.int .u64 0), .lit (.int .u64 0)], .nil, .nil, .agg [.lit (.int .i64 0), .lit (.int .u64 0), .lit (.string [])]], [], [])) (by kernel_rfl) rfl (by kernel_rfl)) ?_
  intro W base args ds gs before hval hW _ hk _
  exact bloomNever_contract H enc W base args ds gs before hval hW hk
theorem bloomNever_proved : Rows.BloomNeverUptoSaid :=
  OpenClaim.holds_of_cond 3 Try.f3 rfl rfl rfl rfl rfl rfl rfl ⟨rfl, rfl, rfl, rfl, rfl⟩ rfl rfl rfl rfl rfl (by kernel_rfl) Try.func3 (by kernel_rfl)
    (of_decide_eq_true (by kernel_rfl)) (by unfold Func.isWrapper; first | (rw [if_pos (by decide +kernel)]; kernel_rfl) | (rw [if_neg (by decide +kernel)]; exact ⟨rfl, rfl⟩))
    (fun os started H enc _ F => bloomNever_lifted os started H enc F)
end Go.Proofs.Ytiamfjfbmgijhaa
