/- PredKleene: predKleene: for every input the law returns true, and each argument reads behind the call as it read before. -/
import Derived.Test.YtpheegfanljeeaaQcb
import Derived.Test.YtpheegfanljeeaaOcn
namespace Go.Proofs.Ytpheegfanljeeaa
open Go.ChangeShapes Go.WideShapes Go.ChangeAt Go.RowKit Hy
open Go.ChangeMaps (open_string)
theorem predKleene_own : ownKnob Try.prog.godebug = none := by kernel_rfl
theorem predKleene_laid : laidOutB Try.prog = true := by kernel_rfl
theorem predKleene_reads : (Try.f5.params.toList.all fun t => Try.prog.readableRec t && decide (t < Try.prog.types.size)) = true := by kernel_rfl
set_option maxRecDepth 100000 in
theorem predKleene_contract (H : Type) (enc : TypeId × Value → H) (W : World) (base : Nat) (args : Array Value) (ds gs : List (DataW H)) (before : List MemPlace)
    (hval : ∀ (j : Nat) t v, Try.f5.params[j]? = some t → args[j]? = some v → Value.okWide Try.prog W .any base t v)
    (hW : DataW.Whole enc Try.prog Try.f5.params.toList Rows.predKleeneSpec.vars false W args.toList ds gs before) (hsz : (DataW.weightsEach Try.prog (Try.f5.params.toList ++ Rows.predKleeneSpec.plain.varTypes Try.prog) (ds ++ gs)).all (· ≤ reachBytes) = true) :
    Calls Try.prog 5 args W fun e W' => ∃ v, e = .returned v ∧ Rows.predKleeneSpec.post enc Try.prog Try.f5 false true false false W args v W' := by
  have hW' := hW
  obtain ⟨p, q, hA0, hV, rfl, hfz, hnd⟩ := hW
  have hA : DataW.TrodAll enc Try.prog W 0 (fun _ => true) true Try.f5.params.toList args.toList ds p := hA0
  rw [Try.params5] at hA hval
  obtain ⟨v0, vs0, d0, ds0, p0, q0, hargs, rfl, rfl, h0, r0⟩ := trodAll_cons hA
  obtain ⟨v1, vs1, d1, ds1, p1, q1, rfl, rfl, rfl, h1, r1⟩ := trodAll_cons r0
  obtain ⟨v2, vs2, d2, ds2, p2, q2, rfl, rfl, rfl, h2, r2⟩ := trodAll_cons r1
  obtain ⟨v3, vs3, d3, ds3, p3, q3, rfl, rfl, rfl, h3, r3⟩ := trodAll_cons r2
  obtain ⟨v4, vs4, d4, ds4, p4, q4, rfl, rfl, rfl, h4, r4⟩ := trodAll_cons r3
  obtain ⟨v5, vs5, d5, ds5, p5, q5, rfl, rfl, rfl, h5, r5⟩ := trodAll_cons r4
  obtain ⟨rfl, rfl, rfl⟩ := trodAll_nil r5
  obtain rfl : args = #[v0, v1, v2, v3, v4, v5] := by cases args; simp_all
  obtain ⟨rfl, rfl⟩ := trodVars_none hV
  obtain ⟨A0, len0, cap0, l0, rfl, hl0, hc0, hm0, hn0, hrd0, hok0, hd0⟩ := open_list (f := cnd5) (m := 5) (fun _ => rfl) (by decide) (g := datCnd) (ok := okCnd) Try.underlying22 (by kernel_rfl) (read_cnd (e := 37) Try.underlying39 ⟨rfl, rfl, rfl⟩ ⟨by kernel_rfl, by kernel_rfl, by kernel_rfl⟩ Try.underlying3 Try.underlying3 rfl Try.underlying37 (by kernel_rfl) Try.underlying3 Try.underlying35 Try.underlying9) (hval 0 22 v0 rfl rfl) h0
  have hz0 := (weights_list Try.underlying22 hd0 (weights_each hsz (j := 0) (by rw [Try.params5]; rfl) rfl)).1
  rw [show Try.prog.bytesOf 39 = 48 from by kernel_rfl, List.length_map] at hz0
  obtain ⟨A1, len1, cap1, l1, rfl, hl1, hc1, hm1, hn1, hrd1, hok1, hd1⟩ := open_list (f := cnd5) (m := 5) (fun _ => rfl) (by decide) (g := datCnd) (ok := okCnd) Try.underlying22 (by kernel_rfl) (read_cnd (e := 37) Try.underlying39 ⟨rfl, rfl, rfl⟩ ⟨by kernel_rfl, by kernel_rfl, by kernel_rfl⟩ Try.underlying3 Try.underlying3 rfl Try.underlying37 (by kernel_rfl) Try.underlying3 Try.underlying35 Try.underlying9) (hval 1 22 v1 rfl rfl) h1
  have hz1 := (weights_list Try.underlying22 hd1 (weights_each hsz (j := 1) (by rw [Try.params5]; rfl) rfl)).1
  rw [show Try.prog.bytesOf 39 = 48 from by kernel_rfl, List.length_map] at hz1
  obtain ⟨A2, len2, cap2, l2, rfl, hl2, hc2, hm2, hn2, hrd2, hok2, hd2⟩ := open_list (f := in1) (m := 1) (fun _ => rfl) (by decide) (g := datIn) (ok := fun _ => True) Try.underlying23 (by kernel_rfl) (read_in Try.underlying3) (hval 2 23 v2 rfl rfl) h2
  rw [in1_i64s] at hrd2
  have hz2 := (weights_list Try.underlying23 hd2 (weights_each hsz (j := 2) (by rw [Try.params5]; rfl) rfl)).1
  rw [show Try.prog.bytesOf 3 = 8 from by kernel_rfl, List.length_map] at hz2
  obtain ⟨A3, len3, cap3, l3, rfl, hl3, hc3, hm3, hn3, hrd3, hok3, hd3⟩ := open_list (f := cel3) (m := 3) (fun _ => rfl) (by decide) (g := datCel) (ok := okCel) Try.underlying24 (by kernel_rfl) (read_cel Try.underlying37 (by kernel_rfl) Try.underlying3 Try.underlying35 Try.underlying9) (hval 3 24 v3 rfl rfl) h3
  have hw3 := weights_list Try.underlying24 hd3 (weights_each hsz (j := 3) (by rw [Try.params5]; rfl) rfl)
  have hz3 := hw3.1
  rw [show Try.prog.bytesOf 37 = 32 from by kernel_rfl, List.length_map] at hz3
  have hs3 : ∀ c ∈ l3, c.2.2.size ≤ reachBytes := fun c hc => hw3.2 _ (List.mem_map.2 ⟨c, hc, rfl⟩) _ (cel_weight Try.underlying37 c)
  clear hw3
  obtain ⟨A4, len4, cap4, l4, rfl, hl4, hc4, hm4, hn4, hrd4, hok4, hd4⟩ := open_list (f := sta8) (m := 8) (fun _ => rfl) (by decide) (g := datSta) (ok := okSta) Try.underlying31 (by kernel_rfl) (read_sta (e := 37) Try.underlying45 ⟨rfl, rfl, rfl, rfl⟩ ⟨by kernel_rfl, by kernel_rfl, by kernel_rfl, by kernel_rfl⟩ Try.underlying3 Try.underlying3 rfl rfl Try.underlying37 (by kernel_rfl) Try.underlying3 Try.underlying35 Try.underlying9) (hval 4 31 v4 rfl rfl) h4
  have hw4 := weights_list Try.underlying31 hd4 (weights_each hsz (j := 4) (by rw [Try.params5]; rfl) rfl)
  have hz4 := hw4.1
  rw [show Try.prog.bytesOf 45 = 80 from by kernel_rfl, List.length_map] at hz4
  have hs4 : ∀ s ∈ l4, s.2.2.1.2.2.size ≤ reachBytes ∧ s.2.2.2.2.2.size ≤ reachBytes := fun s hs => ⟨hw4.2 _ (List.mem_map.2 ⟨s, hs, rfl⟩) _ (sta_weight Try.underlying45 rfl rfl Try.underlying37 s).1, hw4.2 _ (List.mem_map.2 ⟨s, hs, rfl⟩) _ (sta_weight Try.underlying45 rfl rfl Try.underlying37 s).2⟩
  clear hw4
  obtain ⟨A5, len5, cap5, l5, rfl, hl5, hc5, hm5, hn5, hrd5, hok5, hd5⟩ := open_list (f := four4) (m := 4) (fun _ => rfl) (by decide) (g := datFr) (ok := Bloom.F.ok) Try.underlying32 (by kernel_rfl) (read_four Try.underlying48 Try.underlying35 (by kernel_rfl)) (hval 5 32 v5 rfl rfl) h5
  have hz5 := (weights_list Try.underlying32 hd5 (weights_each hsz (j := 5) (by rw [Try.params5]; rfl) rfl)).1
  rw [show Try.prog.bytesOf 48 = 32 from by kernel_rfl, List.length_map] at hz5
  clear hA0
  simp only [List.append_nil] at hW'
  refine Calls.mono (R := fun e W' => e = .returned (.bool true) ∧ Ext W W') ?_ fun e W' ⟨he, hb⟩ => ⟨_, he, law_post predKleene_laid predKleene_reads rfl hW' hb rfl Try.underlying4 rfl⟩
  unfold reachBytes at *
  exact predKleene_walk l2 l0 l1 l3 l4 l5 A0 A1 A2 A3 A4 A5 len0 cap0 len1 cap1 len2 cap2 len3 cap3 len4 cap4 len5 cap5 W hl0 hrd0 hn0 (okCnds_of hok0) (by omega) hl1 hrd1 hn1 (okCnds_of hok1) (by omega) hl2 hrd2 (by omega) hl3 hrd3 (by omega) hc3 hl4 hrd4 (by omega) hl5 hrd5 (by omega) hok5
set_option maxRecDepth 100000 in
theorem predKleene_lifted (os : Os) (started : os.Started) (H : Type) (enc : TypeId × Value → H) :
    ReturnsInHanded {} Try.checked os 5 .any (Rows.predKleeneSpec.pre6 enc Try.prog Try.f5 Rows.predKleeneRow.domain false) (Rows.predKleeneSpec.post enc Try.prog Try.f5 false true false false) := by
  refine returnsInHanded_of_change_sized (C := Try.checked) predKleene_own started (by kernel_rfl) Try.func5
    (ChangeSpec.witness6 (enc := enc) (C := Try.checked) false ⟨#[], #[.slice none 0 0, .slice none 0 0, .slice none 0 0, .slice none 0 0, .slice none 0 0, .slice none 0 0], []⟩ 8 (by kernel_rfl) (by kernel_rfl) (by kernel_rfl) (by kernel_rfl)) ?_
  intro W base args ds gs before hval hW _ hsz _
  exact predKleene_contract H enc W base args ds gs before hval hW hsz
theorem predKleene_proved : Rows.PredKleeneSaid :=
  OpenClaim.holds_of_wide 5 Try.f5 rfl rfl rfl rfl rfl rfl rfl ⟨rfl, rfl, rfl, rfl, rfl⟩ rfl rfl rfl rfl rfl (by kernel_rfl) Try.func5 (by kernel_rfl)
    (of_decide_eq_true (by kernel_rfl)) (by unfold Func.isWrapper; first | (rw [if_pos (by decide +kernel)]; kernel_rfl) | (rw [if_neg (by decide +kernel)]; exact ⟨rfl, rfl⟩))
    (fun os started H enc _ => predKleene_lifted os started H enc)
end Go.Proofs.Ytpheegfanljeeaa
