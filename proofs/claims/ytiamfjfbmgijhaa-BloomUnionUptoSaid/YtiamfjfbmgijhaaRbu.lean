/- BloomUnion: bloomUnion: for every input of bulk at most 1048576 the law returns true, and each argument reads behind the call as it read before. -/
import Derived.Test.YtiamfjfbmgijhaaRowk
import Derived.Test.YtiamfjfbmgijhaaOpen
import Derived.Test.YtiamfjfbmgijhaaBuw
namespace Go.Proofs.Ytiamfjfbmgijhaa
open Go.ChangeShapes Go.WideShapes Go.ChangeAt Go.RowKit Hy
open Go.ChangeMaps (open_string)
theorem bloomUnion_own : ownKnob Try.prog.godebug = none := by kernel_rfl
theorem bloomUnion_laid : laidOutB Try.prog = true := by kernel_rfl
theorem bloomUnion_reads : (Try.f9.params.toList.all fun t => Try.prog.readableRec t && decide (t < Try.prog.types.size)) = true := by kernel_rfl
theorem bloomUnion_contract (H : Type) (enc : TypeId × Value → H) (W : World) (base : Nat) (args : Array Value) (ds gs : List (DataW H)) (before : List MemPlace)
    (hval : ∀ (j : Nat) t v, Try.f9.params[j]? = some t → args[j]? = some v → Value.okWide Try.prog W .any base t v)
    (hW : DataW.Whole enc Try.prog Try.f9.params.toList Rows.bloomUnionSpec.vars false W args.toList ds gs before) (hk : Rows.uptoSmall H (ds ++ gs) = true) :
    Calls Try.prog 9 args W fun e W' => ∃ v, e = .returned v ∧ Rows.bloomUnionSpec.post enc Try.prog Try.f9 false true false false W args v W' := by
  have hW' := hW
  obtain ⟨p, q, hA0, hV, rfl, hfz, hnd⟩ := hW
  have hA : DataW.TrodAll enc Try.prog W 0 (fun _ => true) true Try.f9.params.toList args.toList ds p := hA0
  rw [Try.params9] at hA hval
  obtain ⟨v0, vs0, d0, ds0, p0, q0, hargs, rfl, rfl, h0, r0⟩ := trodAll_cons hA
  obtain ⟨v1, vs1, d1, ds1, p1, q1, rfl, rfl, rfl, h1, r1⟩ := trodAll_cons r0
  obtain ⟨v2, vs2, d2, ds2, p2, q2, rfl, rfl, rfl, h2, r2⟩ := trodAll_cons r1
  obtain ⟨rfl, rfl, rfl⟩ := trodAll_nil r2
  obtain rfl : args = #[v0, v1, v2] := by cases args; simp_all
  obtain ⟨rfl, rfl⟩ := trodVars_none hV
  obtain ⟨A0, len0, cap0, l0, rfl, hl0, hc0, hm0, hrd0, hok0, hd0⟩ := open_cells Try.underlying24 Try.underlying26 (by kernel_rfl) (by kernel_rfl) Try.underlying3 Try.underlying22 Try.underlying9 (hval 0 24 v0 rfl rfl) h0
  obtain ⟨A1, len1, cap1, l1, rfl, hl1, hc1, hm1, hrd1, hok1, hd1⟩ := open_cells Try.underlying24 Try.underlying26 (by kernel_rfl) (by kernel_rfl) Try.underlying3 Try.underlying22 Try.underlying9 (hval 1 24 v1 rfl rfl) h1
  obtain ⟨c2, rfl, rfl, hn2, hs2⟩ := open_cell Try.underlying26 (by kernel_rfl) (by kernel_rfl) Try.underlying3 Try.underlying22 Try.underlying9 (hval 2 26 v2 rfl rfl) h2
  clear hA0
  simp only [List.append_nil] at hW'
  refine Calls.mono (R := fun e W' => e = .returned (.bool true) ∧ Ext W W') ?_ fun e W' ⟨he, hb⟩ => ⟨_, he, law_post bloomUnion_laid bloomUnion_reads rfl hW' hb rfl Try.underlying4 rfl⟩
  have hbulk := of_decide_eq_true hk
  simp only [List.append_nil, Rows.uptoBulkAll] at hbulk
  obtain ⟨m0, n0⟩ := bulk_cells hd0
  obtain ⟨m1, n1⟩ := bulk_cells hd1
  have m2 := bulk_c (H := H) c2
  simp only [datC] at m2
  exact bunion_walk l0 l1 A0 A1 len0 len1 cap0 cap1 c2.k c2.n c2.s W hl0 hl1 hrd0 hrd1 (by omega) (by omega) (fun c hc => ⟨(hok0 c hc).1, by have := n0 c hc; omega⟩) (fun c hc => ⟨(hok1 c hc).1, by have := n1 c hc; omega⟩) hn2 (by omega)
set_option maxRecDepth 100000 in
theorem bloomUnion_lifted (os : Os) (started : os.Started) (H : Type) (enc : TypeId × Value → H) (F : Stop.Interp) :
    ReturnsInHanded {} Try.checked os 9 .any ((Rows.OpenSpec.upto Rows.bloomUnionSpec).pre6 enc Try.prog Try.f9 Rows.bloomUnionUptoRow.domain false) (((Rows.OpenSpec.upto Rows.bloomUnionSpec).at F).post enc Try.prog Try.f9 false true false false) := by
  refine returnsInHanded_of_cond (C := Try.checked) (s := Rows.OpenSpec.upto Rows.bloomUnionSpec) (k := Rows.uptoSmall) rfl bloomUnion_own started (by kernel_rfl) Try.func9
    (OpenSpec.witness (enc := enc) (C := Try.checked) (s := Rows.OpenSpec.upto Rows.bloomUnionSpec) (k := Rows.uptoSmall) rfl false ⟨#[], #[.slice none 0 0, .slice none 0 0, .agg #[.int .i64 0, .int .u64 0, .string .empty]], []⟩ 8 (by kernel_rfl) (by kernel_rfl) (by kernel_rfl)
      (x := ([.nil, .nil, .agg [.lit (.int .i64 0), .lit (.int .u64 0), .lit (.string [])]], [], [])) (by kernel_rfl) rfl (by kernel_rfl)) ?_
  intro W base args ds gs before hval hW _ hk _
  exact bloomUnion_contract H enc W base args ds gs before hval hW hk
theorem bloomUnion_proved : Rows.BloomUnionUptoSaid :=
  OpenClaim.holds_of_cond 9 Try.f9 rfl rfl rfl rfl rfl rfl rfl ⟨rfl, rfl, rfl, rfl, rfl⟩ rfl rfl rfl rfl rfl (by kernel_rfl) Try.func9 (by kernel_rfl)
    (of_decide_eq_true (by kernel_rfl)) (by unfold Func.isWrapper; first | (rw [if_pos (by decide +kernel)]; kernel_rfl) | (rw [if_neg (by decide +kernel)]; exact ⟨rfl, rfl⟩))
    (fun os started H enc _ F => bloomUnion_lifted os started H enc F)
end Go.Proofs.Ytiamfjfbmgijhaa
