/- PruneMore: pruneMore: for every input of bulk at most 1048576 the law returns true, and each argument reads behind the call as it read before. -/
import Derived.Test.YtpheegfanljeeaaQce
import Derived.Test.YtpheegfanljeeaaOcn
namespace Go.Proofs.Ytpheegfanljeeaa
open Go.ChangeShapes Go.WideShapes Go.ChangeAt Go.RowKit Hy
open Go.ChangeMaps (open_string)
theorem pruneMore_own : ownKnob Try.prog.godebug = none := by kernel_rfl
theorem pruneMore_laid : laidOutB Try.prog = true := by kernel_rfl
theorem pruneMore_reads : (Try.f7.params.toList.all fun t => Try.prog.readableRec t && decide (t < Try.prog.types.size)) = true := by kernel_rfl
set_option maxRecDepth 100000 in
theorem pruneMore_contract (H : Type) (enc : TypeId × Value → H) (W : World) (base : Nat) (args : Array Value) (ds gs : List (DataW H)) (before : List MemPlace)
    (hval : ∀ (j : Nat) t v, Try.f7.params[j]? = some t → args[j]? = some v → Value.okWide Try.prog W .any base t v)
    (hW : DataW.Whole enc Try.prog Try.f7.params.toList Rows.pruneMoreSpec.vars false W args.toList ds gs before) (hk : Rows.uptoSmall H (ds ++ gs) = true) :
    Calls Try.prog 7 args W fun e W' => ∃ v, e = .returned v ∧ Rows.pruneMoreSpec.post enc Try.prog Try.f7 false true false false W args v W' := by
  have hW' := hW
  obtain ⟨p, q, hA0, hV, rfl, hfz, hnd⟩ := hW
  have hA : DataW.TrodAll enc Try.prog W 0 (fun _ => true) true Try.f7.params.toList args.toList ds p := hA0
  rw [Try.params7] at hA hval
  obtain ⟨v0, vs0, d0, ds0, p0, q0, hargs, rfl, rfl, h0, r0⟩ := trodAll_cons hA
  obtain ⟨v1, vs1, d1, ds1, p1, q1, rfl, rfl, rfl, h1, r1⟩ := trodAll_cons r0
  obtain ⟨v2, vs2, d2, ds2, p2, q2, rfl, rfl, rfl, h2, r2⟩ := trodAll_cons r1
  obtain ⟨v3, vs3, d3, ds3, p3, q3, rfl, rfl, rfl, h3, r3⟩ := trodAll_cons r2
  obtain ⟨rfl, rfl, rfl⟩ := trodAll_nil r3
  obtain rfl : args = #[v0, v1, v2, v3] := by cases args; simp_all
  obtain ⟨rfl, rfl⟩ := trodVars_none hV
  obtain ⟨A0, len0, cap0, l0, rfl, hl0, hc0, hm0, hn0, hrd0, hok0, hd0⟩ := open_list (f := cnd5) (m := 5) (fun _ => rfl) (by decide) (g := datCnd) (ok := okCnd) Try.underlying22 (by kernel_rfl) (read_cnd (e := 37) Try.underlying39 ⟨rfl, rfl, rfl⟩ ⟨by kernel_rfl, by kernel_rfl, by kernel_rfl⟩ Try.underlying3 Try.underlying3 rfl Try.underlying37 (by kernel_rfl) Try.underlying3 Try.underlying35 Try.underlying9) (hval 0 22 v0 rfl rfl) h0
  have hz0 := bulk_list hd0
  rw [List.length_map] at hz0
  obtain ⟨A1, len1, cap1, l1, rfl, hl1, hc1, hm1, hn1, hrd1, hok1, hd1⟩ := open_list (f := in1) (m := 1) (fun _ => rfl) (by decide) (g := datIn) (ok := fun _ => True) Try.underlying23 (by kernel_rfl) (read_in Try.underlying3) (hval 1 23 v1 rfl rfl) h1
  rw [in1_i64s] at hrd1
  have hz1 := bulk_list hd1
  rw [List.length_map] at hz1
  obtain ⟨A2, len2, cap2, l2, rfl, hl2, hc2, hm2, hn2, hrd2, hok2, hd2⟩ := open_list (f := rwi) (m := 1) (fun _ => rfl) (by decide) (g := Prod.snd) (ok := okRowIn W) Try.underlying43 (by kernel_rfl) (read_row Try.underlying24 (by kernel_rfl) Try.underlying37 (by kernel_rfl) Try.underlying3 Try.underlying35 Try.underlying9) (hval 2 43 v2 rfl rfl) h2
  rw [rws_in] at hrd2
  obtain ⟨A3, len3, cap3, l3, rfl, hl3, hc3, hm3, hn3, hrd3, hok3, hd3⟩ := open_list (f := rwi) (m := 1) (fun _ => rfl) (by decide) (g := Prod.snd) (ok := okRowIn W) Try.underlying43 (by kernel_rfl) (read_row Try.underlying24 (by kernel_rfl) Try.underlying37 (by kernel_rfl) Try.underlying3 Try.underlying35 Try.underlying9) (hval 3 43 v3 rfl rfl) h3
  rw [rws_in] at hrd3
  clear hA0
  simp only [List.append_nil] at hW'
  refine Calls.mono (R := fun e W' => e = .returned (.bool true) ∧ Ext W W') ?_ fun e W' ⟨he, hb⟩ => ⟨_, he, law_post pruneMore_laid pruneMore_reads rfl hW' hb rfl Try.underlying4 rfl⟩
  have hbulk := of_decide_eq_true hk
  simp only [List.cons_append, List.nil_append, Rows.uptoBulkAll] at hbulk
  have hb2 := bulk_rows hd2 (fun x hx => (hok2 x hx).2.2)
  have hb3 := bulk_rows hd3 (fun x hx => (hok3 x hx).2.2)
  exact pruneMore_walk l1 l0 (l2.map Prod.fst) (l3.map Prod.fst) A0 A1 A2 A3 len0 cap0 len1 cap1 len2 cap2 len3 cap3 W hl0 hrd0 (okCnds_of hok0) (by omega) (by rw [List.length_map]; exact hl2) hrd2 (by omega) (fun x hx => by obtain ⟨y, hy, rfl⟩ := List.mem_map.1 hx; exact (hok2 y hy).1) (fun x hx c hc => by obtain ⟨y, hy, rfl⟩ := List.mem_map.1 hx; exact ((hok2 y hy).2.1 c hc).1) hl1 hrd1 (by omega) hn2 (by rw [List.length_map]; exact hl3) hrd3 (by omega) (fun x hx => by obtain ⟨y, hy, rfl⟩ := List.mem_map.1 hx; exact (hok3 y hy).1) (fun x hx c hc => by obtain ⟨y, hy, rfl⟩ := List.mem_map.1 hx; exact ((hok3 y hy).2.1 c hc).1) hn3
set_option maxRecDepth 100000 in
theorem pruneMore_lifted (os : Os) (started : os.Started) (H : Type) (enc : TypeId × Value → H) (F : Stop.Interp) :
    ReturnsInHanded {} Try.checked os 7 .any ((Rows.OpenSpec.upto Rows.pruneMoreSpec).pre6 enc Try.prog Try.f7 Rows.pruneMoreUptoRow.domain false) (((Rows.OpenSpec.upto Rows.pruneMoreSpec).at F).post enc Try.prog Try.f7 false true false false) := by
  refine returnsInHanded_of_cond (C := Try.checked) (s := Rows.OpenSpec.upto Rows.pruneMoreSpec) (k := Rows.uptoSmall) rfl pruneMore_own started (by kernel_rfl) Try.func7
    (OpenSpec.witness (enc := enc) (C := Try.checked) (s := Rows.OpenSpec.upto Rows.pruneMoreSpec) (k := Rows.uptoSmall) rfl false ⟨#[], #[.slice none 0 0, .slice none 0 0, .slice none 0 0, .slice none 0 0], []⟩ 8 (by kernel_rfl) (by kernel_rfl) (by kernel_rfl)
      (x := ([.nil, .nil, .nil, .nil], [], [])) (by kernel_rfl) rfl (by kernel_rfl)) ?_
  intro W base args ds gs before hval hW _ hk _
  exact pruneMore_contract H enc W base args ds gs before hval hW hk
theorem pruneMore_proved : Rows.PruneMoreUptoSaid :=
  OpenClaim.holds_of_cond 7 Try.f7 rfl rfl rfl rfl rfl rfl rfl ⟨rfl, rfl, rfl, rfl, rfl⟩ rfl rfl rfl rfl rfl (by kernel_rfl) Try.func7 (by kernel_rfl)
    (of_decide_eq_true (by kernel_rfl)) (by unfold Func.isWrapper; first | (rw [if_pos (by decide +kernel)]; kernel_rfl) | (rw [if_neg (by decide +kernel)]; exact ⟨rfl, rfl⟩))
    (fun os started H enc _ F => pruneMore_lifted os started H enc F)
end Go.Proofs.Ytpheegfanljeeaa
