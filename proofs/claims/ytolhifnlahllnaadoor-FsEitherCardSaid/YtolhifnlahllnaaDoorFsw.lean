/- Files: Insert: walk (printed by gen_ins.py). -/
import Derived.Test.YtolhifnlahllnaaDoorFsv
import Derived.Laws.Externs
namespace Hy
open Go Go.RowKit
theorem splice_take {α : Type} (L : List α) (o : Nat) (cs : List α) (k : Nat) (h : k ≤ o) (hl : o ≤ L.length) : (splice L o cs).take k = L.take k := by
  unfold splice
  rw [List.take_append_of_le_length (by rw [List.length_take]; omega), List.take_take, Nat.min_eq_left h]
/-- an element is laid between: the cells -/
theorem ins_cells (cur : List Value) (l : List Ent) (x : Ent) (i n : Nat) (hi : i ≤ n) (hn : l.length = n) (hc : (n + 1) * 2 ≤ cur.length) (ht : cur.take (i * 2) = ens (l.take i)) :
    (splice (splice cur ((i + 1) * 2) (ens (l.drop i))) (i * 2) (ent2 x)).take ((n + 1) * 2) = ens (l.take i ++ x :: l.drop i) ∧ (splice (splice cur (i * 2) (ent2 x)) ((i + 1) * 2) (ens (l.drop i))).take ((n + 1) * 2) = ens (l.take i ++ x :: l.drop i) := by
  have hd : (ens (l.drop i)).length = (n - i) * 2 := by rw [ens_len, List.length_drop, hn]
  have he : (ent2 x).length = 2 := rfl
  have ha : (cur.take (i * 2)).length = i * 2 := by rw [List.length_take]; omega
  have goal : ∀ r : List Value, (cur.take (i * 2) ++ (ent2 x ++ (ens (l.drop i) ++ r))).take ((n + 1) * 2) = ens (l.take i ++ x :: l.drop i) := fun r => by
    have e : (cur.take (i * 2) ++ (ent2 x ++ ens (l.drop i))).length = (n + 1) * 2 := by rw [List.length_append, List.length_append, ha, he, hd]; omega
    rw [show cur.take (i * 2) ++ (ent2 x ++ (ens (l.drop i) ++ r)) = (cur.take (i * 2) ++ (ent2 x ++ ens (l.drop i))) ++ r by simp, ← e, List.take_left, ht]
    simp [ens]
  constructor
  · have e1 : (splice cur ((i + 1) * 2) (ens (l.drop i))).drop (i * 2 + 2) = ens (l.drop i) ++ cur.drop ((n + 1) * 2) := by
      unfold splice
      rw [show (i + 1) * 2 = i * 2 + 2 by omega, List.drop_append_of_le_length (by rw [List.length_take]; omega), List.drop_of_length_le (by rw [List.length_take]; omega), List.nil_append, hd]
      congr 2; omega
    have e2 : (splice cur ((i + 1) * 2) (ens (l.drop i))).take (i * 2) = cur.take (i * 2) := splice_take _ _ _ _ (by omega) (by omega)
    unfold splice at e1 e2 ⊢
    rw [e2, he, e1]
    exact goal _
  · have e2 : (splice cur (i * 2) (ent2 x)).take ((i + 1) * 2) = cur.take (i * 2) ++ ent2 x := by
      unfold splice
      rw [← List.append_assoc, show (i + 1) * 2 = (cur.take (i * 2) ++ ent2 x).length by rw [List.length_append, ha, he]; omega, List.take_left]
    unfold splice at e2 ⊢
    rw [e2, List.append_assoc]
    exact goal _
end Hy
namespace Go.Proofs.YtolhifnlahllnaaDoor
open Go.RowKit Hy
set_option maxRecDepth 100000 in
theorem insE_end (l : List Ent) (A : Option Addr) (n c base vb : Nat) (x : Ent) (w : World) (ho : w.ownsRow base 47 2 (.slice A n c) n (ens l)) (hnl : n ≤ 1000000) (hb : base ≤ w.heap.size) (hv : Blk w vb 47 #[.string x.1, .int .i64 x.2]) :
    Calls Tryd.prog 116 #[.slice A n c, .int .i64 (n : Int), .slice (some ⟨vb, 0, none⟩) 1 1] w fun e w' => ∃ B d, e = .returned (.slice B (n + 1) d) ∧ w'.ownsRow base 47 2 (.slice B (n + 1) d) (n + 1) (ens (l ++ [x])) ∧ w.grownBy w' (Value.slice A n c).ownBlock ∧ ((Value.slice B (n + 1) d).ownBlock = (Value.slice A n c).ownBlock ∨ (Value.slice B (n + 1) d).ownBlock = some w.heap.size) := by
  obtain ⟨hr, hz, hnc⟩ := own_rd ho
  have HO := hid ho
  have HS := hid (show Src Tryd.prog 2 23 (.slice (some ⟨vb, 0, none⟩) 1 1) 1 (ens [x]) w from
    Src.rd Tryd.underlying23 _ 1 1 _ rfl (fun _ => ⟨vb, 0, rfl, hv.lt, fun j u hj => by rw [Nat.zero_add, hv.cell]; obtain ⟨s, t⟩ := x; match j, hj with | 0, hj => exact hj | 1, hj => exact hj⟩) (ens_one _) (fun h => by cases h))
  have HL := hid hnl
  have HB := hid hb
  have hncI : (n : Int) ≤ (c : Int) := by omega
  have hcm : c ≤ maxLen := by
    rcases ho.2 with ⟨h, _⟩ | ⟨g', cap, cur, hv, _, _, _, hm, _⟩
    · injection h with _ _ h; rw [h]; exact Nat.zero_le _
    · injection hv with _ _ hc; rw [hc]; exact hm
  have hcI : (c : Int) ≤ 9223372036854775807 := by unfold maxLen at hcm; omega
  have hsl := fun wx : World => sl_from (P := Tryd.prog) (t := 23) (e := 47) (m := 2) Tryd.underlying23 (by kernel_rfl) A n c .i64 n (Nat.le_refl _) wx
  have hni : ¬ c < n := by omega
  clear hr hz hnc ho hv hnl hb hcm
  go_enter Tryd.func116, Tryd.ntmps116
  go_wp2_with (at_builtin; go_loud (refine wpList_app rfl (.tmp 23) (.tmp 24) rowEn rfl _ n (ens l) rfl HO.out _ 1 (ens [x]) rfl HS.out (by have := HL.out; simp only [maxLen]; omega) (by have := HL.out; omega) HB.out ?_; intro v' w4 hown4 hgrow hat hbel; obtain ⟨B, d, rfl, hbd⟩ := Rd.owned hown4; have HO4 := hid hown4; have HG4 := hid hgrow; have HAT := hid hat; clear hown4 hgrow hat hbel hbd))
  go_returns
  exact ⟨B, d, rfl, by rw [ens_app]; exact HO4.out, HG4.out, HAT.out⟩
theorem ov_any (vb g o la ca lb cb : Nat) (w : World) (tB : TypeId) (C cur : Array Value) (hv : Blk w vb 47 C) (hg : Blk w g tB cur) (hne : vb ≠ g) (hc : cur.size ≠ 0) :
    (callFunc 133 #[.slice (some ⟨vb, 0, none⟩) la ca, .slice (some ⟨g, o, none⟩) lb cb]).run Tryd.prog w = .ok (.value (.bool false)) w := by
  have hsa : w.shape? vb = some (47, C.size) := by unfold World.shape?; rw [show w.heap[vb]? = _ from hv]
  have hsb : w.shape? g = some (tB, cur.size) := by unfold World.shape?; rw [show w.heap[g]? = _ from hg]
  rw [run_callFunc_extern Tryd.func133 (by kernel_rfl) (by kernel_rfl) (by kernel_rfl) (e := Extern.SlicesOverlaps.overlaps #[23, 23] #[4]) (by kernel_rfl),
    Lib.run_overlaps_apart w 23 4 47 Tryd.underlying23 2 (fun w => sl_size (by kernel_rfl) w) ⟨vb, 0, none⟩ ⟨g, o, none⟩ la ca lb cb hne 47 tB C.size cur.size hsa hsb hc (hv.frozen 0) (hv.frozen _)]
  rfl
set_option maxHeartbeats 3200000 in
set_option maxRecDepth 100000 in
theorem insE_room (l : List Ent) (g n c i base vb : Nat) (x : Ent) (w : World) (hn : l.length = n) (ho : w.ownsRow base 47 2 (.slice (some ⟨g, 0, none⟩) n c) n (ens l)) (hi : i < n) (hroom : n + 1 ≤ c) (hv : Blk w vb 47 #[.string x.1, .int .i64 x.2]) (hne : vb ≠ g) :
    Calls Tryd.prog 116 #[.slice (some ⟨g, 0, none⟩) n c, .int .i64 (i : Int), .slice (some ⟨vb, 0, none⟩) 1 1] w fun e w' => e = .returned (.slice (some ⟨g, 0, none⟩) (n + 1) c) ∧ w'.ownsRow base 47 2 (.slice (some ⟨g, 0, none⟩) (n + 1) c) (n + 1) (ens (l.take i ++ x :: l.drop i)) ∧ w.grownBy w' (some g) := by
  obtain ⟨hr, _, hnc⟩ := own_rd ho
  obtain ⟨hbg, hcm, cur, hcur, hcs, htk⟩ := own_cur ho
  have HBG := hid hbg
  have HCM := hid hcm
  have HCS := hid hcs
  have hcI : (c : Int) ≤ 9223372036854775807 := by unfold maxLen at hcm; omega
  obtain ⟨k, hk⟩ : ∃ k, k = i + 1 := ⟨_, rfl⟩
  obtain ⟨q, hq⟩ : ∃ q, q = n + 1 := ⟨_, rfl⟩
  have hov := fun o la ca => ov_any vb g o la ca 1 1 w
  have hov : ∀ (lb cb : Nat), (callFunc 133 #[.slice (some ⟨vb, 0, none⟩) 1 1, .slice (some ⟨g, k * 2, none⟩) lb cb]).run Tryd.prog w = .ok (.value (.bool false)) w := fun lb cb => ov_any vb g (k * 2) 1 1 lb cb w 47 _ cur hv hcur hne (by rw [hcs]; omega)
  have hsl0 := fun wx : World => sl_from (P := Tryd.prog) (t := 23) (e := 47) (m := 2) Tryd.underlying23 (by kernel_rfl) (some ⟨g, 0, none⟩) n c .i64 i (by omega) wx
  have hsl1 := fun wx : World => sl_to (P := Tryd.prog) (t := 23) (e := 47) (m := 2) Tryd.underlying23 (by kernel_rfl) (some ⟨g, 0, none⟩) n c .i64 q (by omega) wx
  have hsl2 := fun wx : World => sl_from (P := Tryd.prog) (t := 23) (e := 47) (m := 2) Tryd.underlying23 (by kernel_rfl) (some ⟨g, 0, none⟩) q c .i64 k (by omega) wx
  have hsl3 := fun wx : World => sl_from (P := Tryd.prog) (t := 23) (e := 47) (m := 2) Tryd.underlying23 (by kernel_rfl) (some ⟨g, 0, none⟩) q c .i64 i (by omega) wx
  have hsk : slF (some ⟨g, 0, none⟩) k c 2 = some ⟨g, k * 2, none⟩ := by unfold slF; rw [if_neg (by omega)]; show some ((Addr.mk g 0 none).add (k * 2)) = _; rw [add_none, Nat.zero_add]
  have hsi : slF (some ⟨g, 0, none⟩) i c 2 = some ⟨g, i * 2, none⟩ := by unfold slF; rw [if_neg (by omega)]; show some ((Addr.mk g 0 none).add (i * 2)) = _; rw [add_none, Nat.zero_add]
  rw [hsk] at hsl2
  rw [hsi] at hsl0 hsl3
  have HSZ := hid (show (Tryd.prog.info? 47).map (·.size) = some 2 by kernel_rfl)
  obtain ⟨D, hD⟩ : ∃ D, D = ens (l.drop i) := ⟨_, rfl⟩
  obtain ⟨E2, hE2⟩ : ∃ E, E = ent2 x := ⟨_, rfl⟩
  have HDL := hid (show D.length = (n - i) * 2 by rw [hD, ens_len, List.length_drop, hn])
  have HDM := hid (show n - i = Nat.min (q - i) (q - k) by have e : Nat.min (q - i) (q - k) = min (q - i) (q - k) := rfl; rw [e]; omega)
  have HDP := hid (show ∀ j v, D[j]? = some v → w.drew.cell? ((Addr.mk g (i * 2) none).add j) = some v from fun j v hj => by
    rw [add_none]
    have hrd := (Rd.drop (b := g) (o := 0) hr (i * 2))
    rw [show (ens l).drop (i * 2) = D by rw [hD]; exact flat_drop (f := ent2) (m := 2) (fun _ => rfl) l i, Nat.zero_add] at hrd
    obtain ⟨b', o', e, _, hc⟩ := hrd (by have := (List.getElem?_eq_some_iff.1 hj).1; omega)
    cases e
    exact hc j v hj)
  have HDF := hid (show k * 2 + D.length ≤ cur.toList.length by rw [HDL.out, Array.length_toList, hcs]; omega)
  have HD1 := hid (show ∀ v ∈ D, v.oneCell' = true by rw [hD]; exact ens_one _)
  have HE1 := hid (show ∀ v ∈ E2, v.oneCell' = true by
    rw [hE2]; intro v hv; simp only [ent2, List.mem_cons, List.not_mem_nil, or_false] at hv; rcases hv with rfl | rfl <;> rfl)
  have HEL := hid (show E2.length = 1 * 2 by rw [hE2]; rfl)
  have HEM := hid (show 1 = Nat.min 1 (q - i) by have e : Nat.min 1 (q - i) = min 1 (q - i) := rfl; rw [e]; omega)
  have HVB := hid (show ∀ (y : World), w.grownBy y (some g) → ∀ j v, E2[j]? = some v → y.cell? ((Addr.mk vb 0 none).add j) = some v from fun y hy j v hj => by
    rw [add_none, Nat.zero_add]
    have hc : w.cell? ⟨vb, j, none⟩ = some v := by
      rw [hv.cell]; rw [hE2] at hj
      obtain ⟨s, t⟩ := x
      match j, hj with
      | 0, hj => exact hj
      | 1, hj => exact hj
    exact hy.cell hc (fun e => hne (Option.some.inj e)))
  have HEF := hid (show i * 2 + E2.length ≤ (splice cur.toList (k * 2) D).length by rw [length_splice _ _ _ HDF.out, HEL.out, Array.length_toList, hcs]; omega)
  have HCUR := hid (show w.drew.heap[g]? = some (.cells cur.toList.toArray 47 (0, 0)) by rw [Array.toArray_toList]; exact hcur)
  have HFIN := hid (show (splice (splice cur.toList (k * 2) D) (i * 2) E2).take ((n + 1) * 2) = ens (l.take i ++ x :: l.drop i) by
    rw [hk, hD, hE2]
    exact (ins_cells cur.toList l x i n (by omega) hn (by rw [Array.length_toList, hcs]; omega) (by
      have h : (cur.toList.take (n * 2)).take (i * 2) = cur.toList.take (i * 2) := by rw [List.take_take, Nat.min_eq_left (by omega)]
      rw [← h, htk]; exact flat_take (f := ent2) (m := 2) (fun _ => rfl) l i)).1)
  have HLEN := hid (show (ens (l.take i ++ x :: l.drop i)).length = (n + 1) * 2 by rw [ens_len]; simp; omega)
  have HSPL := hid (show (splice (splice cur.toList (k * 2) D) (i * 2) E2).length = c * 2 by rw [length_splice _ _ _ HEF.out, length_splice _ _ _ HDF.out, Array.length_toList, hcs])
  have HQ := hid hq
  have HQC := hid (show q ≤ c by omega)
  have hinI : (i : Int) < (n : Int) := by omega
  have hne1 : ((i : Int) == (n : Int)) = false := beq_eq_false_iff_ne.2 (by omega)
  have hw1 : IntKind.i64.wrap ((n : Int) + 1) = (q : Int) := by rw [IntKind.wrap_i64]; omega
  have hw2 : IntKind.i64.wrap ((i : Int) + 1) = (k : Int) := by rw [IntKind.wrap_i64]; omega
  have hwk : IntKind.i64.wrap (k : Int) = (k : Int) := by rw [IntKind.wrap_i64]; omega
  have hwq : IntKind.i64.wrap (q : Int) = (q : Int) := by rw [IntKind.wrap_i64]; omega
  have hqI : (n : Int) + 1 = (q : Int) := by omega
  have hkI : (i : Int) + 1 = (k : Int) := by omega
  have hqc : (q : Int) ≤ (c : Int) := by omega
  rw [← hq]
  clear hr hnc hbg hcm hcur hcs htk hn ho hi hroom hv hne hk hq hsk hsi hD hE2
  go_enter Tryd.func116, Tryd.ntmps116
  go_wp2_with (simp only [hov])
  go_region_law (go_loud (refine step_copy_m rfl (.tmp 73) (.tmp 76) 23 23 rfl 47 2 (n - i) (some ⟨g, k * 2, none⟩) (some ⟨g, i * 2, none⟩) (q - k) (c - k) (q - i) (c - i) (by simp [Act.eval, Act.put]) (by simp [Act.eval, Act.put]) g (k * 2) cur.toList 47 D Tryd.underlying23 HSZ.out HCUR.out HDM.out HDL.out (fun _ => ⟨rfl, _, rfl, HDP.out⟩) HDF.out HD1.out ?_; intro w4 hg4 hgr4))
  have HG4 := hg4
  have HR4 := hid (grown_then (grown_ext (ext_refl w).draw) hgr4.out)
  have HP4 := hid (HVB.out _ HR4.out)
  clear hg4 hgr4
  go_wp2_with (with_reducible (show wpList _ _ _ (⟨some 82, _, _, _, _, _⟩ :: _) _ _); go_loud (refine wpList_copy_m rfl (.tmp 80) (.tmp 81) 23 23 rfl 47 2 1 (some ⟨g, i * 2, none⟩) (some ⟨vb, 0, none⟩) (q - i) (c - i) 1 1 rfl rfl g (i * 2) (splice cur.toList (k * 2) D) 47 E2 Tryd.underlying23 HSZ.out HG4.out HEM.out HEL.out (fun _ => ⟨rfl, _, rfl, HP4.out⟩) HEF.out HE1.out ?_; intro w6 hg6 hgr6))
  go_returns
  refine ⟨rfl, ⟨by rw [HLEN.out, HQ.out], .inr ⟨g, c, _, rfl, HBG.out, hg6.out, HQC.out, HCM.out, ?_, ?_⟩⟩, grown_then HR4.out hgr6.out⟩
  · rw [List.size_toArray, HSPL.out]
  · rw [HQ.out]; exact HFIN.out
set_option maxHeartbeats 800000 in
set_option maxRecDepth 100000 in
theorem insE_grow (l : List Ent) (g n c i base vb : Nat) (x : Ent) (w : World) (hn : l.length = n) (ho : w.ownsRow base 47 2 (.slice (some ⟨g, 0, none⟩) n c) n (ens l)) (hi : i < n) (hroom : c < n + 1) (hnl : n ≤ 1000000) (hb : base ≤ w.heap.size) (hv : Blk w vb 47 #[.string x.1, .int .i64 x.2]) :
    Calls Tryd.prog 116 #[.slice (some ⟨g, 0, none⟩) n c, .int .i64 (i : Int), .slice (some ⟨vb, 0, none⟩) 1 1] w fun e w' => ∃ d, e = .returned (.slice (some ⟨w.heap.size, 0, none⟩) (n + 1) d) ∧ w'.ownsRow base 47 2 (.slice (some ⟨w.heap.size, 0, none⟩) (n + 1) d) (n + 1) (ens (l.take i ++ x :: l.drop i)) ∧ Ext w w' := by
  obtain ⟨hr, _, hnc⟩ := own_rd ho
  obtain ⟨_, ⟨i0, z, hi0, hz0, hzs, hzb, hzc⟩, _⟩ := rowEn
  obtain ⟨k, hk⟩ : ∃ k, k = i + 1 := ⟨_, rfl⟩
  obtain ⟨q, hq⟩ : ∃ q, q = n + 1 := ⟨_, rfl⟩
  obtain ⟨p, hp⟩ : ∃ p, p = n + 1 - i := ⟨_, rfl⟩
  obtain ⟨D, hD⟩ : ∃ D, D = ens (l.drop i) := ⟨_, rfl⟩
  obtain ⟨E2, hE2⟩ : ∃ E, E = ent2 x := ⟨_, rfl⟩
  obtain ⟨E0, hE0⟩ : ∃ E, E = ens (l.take i) := ⟨_, rfl⟩
  have hE0l : E0.length = i * 2 := by rw [hE0, ens_len, List.length_take]; omega
  have hold : (Builtin.firstCells i0.size i (.slice (some ⟨g, 0, none⟩) i c)).run Tryd.prog w.drew = .ok E0.toArray w.drew := by
    rw [hzs]
    refine run_firstCells_some w.drew 2 i ⟨g, 0, none⟩ i c E0 hE0l (fun j v hj => ?_)
    rw [add_none, Nat.zero_add]
    have hrd := Rd.take (f := ent2) hr i
    obtain ⟨b', o', e, _, hc⟩ := hrd (by have := (List.getElem?_eq_some_iff.1 hj).1; rw [hE0] at this; exact Nat.lt_of_le_of_lt (Nat.zero_le _) this)
    cases e
    have := hc j v (by rw [hE0] at hj; exact hj)
    rw [Nat.zero_add] at this; exact this
  have hrz : ∀ ty, (Builtin.append_ #[23, 3] ty #[.slice (some ⟨g, 0, none⟩) i c, .int .i64 (p : Int)]).run Tryd.prog w = _ := fun ty =>
    Lib.run_append_grow_zeros w 23 3 ty 47 i0 z .i64 .i64 Tryd.underlying23 Tryd.underlying3 hi0 hz0 (some ⟨g, 0, none⟩) i c E0 hold p (by omega) (by omega) (by omega) (by omega) (by rw [hzb]; omega) (by rw [hzb]; exact growslice_fits (by omega) (by omega))
  rw [show i + p = q by omega] at hrz
  have hGn := grownCap_ge w q c 47
  have hGm := grownCap_le_maxLen w q c 47 (by unfold maxLen; omega)
  obtain ⟨G, hG⟩ : ∃ G, G = grownCap w q c 47 := ⟨_, rfl⟩
  rw [← hG] at hrz hGn hGm
  obtain ⟨ROW, hROW⟩ : ∃ R : Array Value, R = E0.toArray ++ Builtin.zeroCells z.cells p ++ Builtin.zeroCells z.cells (G - q) := ⟨_, rfl⟩
  rw [← hROW] at hrz
  have hRs : ROW.size = G * 2 := by rw [hROW, Array.size_append, Array.size_append, size_zeroCells, size_zeroCells, hzc, List.size_toArray, hE0l]; omega
  have hRt : ROW.toList.take (i * 2) = ens (l.take i) := by
    rw [hROW, Array.toList_append, Array.toList_append, List.append_assoc, ← hE0l, ← hE0]
    exact List.take_left
  obtain ⟨W1, hW1⟩ : ∃ W1, W1 = w.drew.alloc (.cells ROW 47) := ⟨_, rfl⟩
  rw [← hW1] at hrz
  have HB1 := hid (show W1.heap[w.heap.size]? = some (.cells ROW.toList.toArray 47 (0, 0)) by rw [hW1, Array.toArray_toList]; exact Blk.new w.drew _ _)
  have HX1 := hid (show Ext w W1 by rw [hW1]; exact Ext.new (ext_refl w).draw _)
  have hsl0 := fun wx : World => sl_from (P := Tryd.prog) (t := 23) (e := 47) (m := 2) Tryd.underlying23 (by kernel_rfl) (some ⟨g, 0, none⟩) n c .i64 i (by omega) wx
  have hsl1 := fun wx : World => sl_to (P := Tryd.prog) (t := 23) (e := 47) (m := 2) Tryd.underlying23 (by kernel_rfl) (some ⟨g, 0, none⟩) n c .i64 i (by omega) wx
  have hsl2 := fun wx : World => sl_from (P := Tryd.prog) (t := 23) (e := 47) (m := 2) Tryd.underlying23 (by kernel_rfl) (some ⟨w.heap.size, 0, none⟩) q G .i64 i (by omega) wx
  have hsl3 := fun wx : World => sl_from (P := Tryd.prog) (t := 23) (e := 47) (m := 2) Tryd.underlying23 (by kernel_rfl) (some ⟨w.heap.size, 0, none⟩) q G .i64 k (by omega) wx
  rw [show slF (some ⟨g, 0, none⟩) i c 2 = some ⟨g, i * 2, none⟩ by unfold slF; rw [if_neg (by omega)]; show some ((Addr.mk g 0 none).add (i * 2)) = _; rw [add_none, Nat.zero_add]] at hsl0
  rw [show slF (some ⟨w.heap.size, 0, none⟩) i G 2 = some ⟨w.heap.size, i * 2, none⟩ by unfold slF; rw [if_neg (by omega)]; show some ((Addr.mk w.heap.size 0 none).add (i * 2)) = _; rw [add_none, Nat.zero_add]] at hsl2
  rw [show slF (some ⟨w.heap.size, 0, none⟩) k G 2 = some ⟨w.heap.size, k * 2, none⟩ by unfold slF; rw [if_neg (by omega)]; show some ((Addr.mk w.heap.size 0 none).add (k * 2)) = _; rw [add_none, Nat.zero_add]] at hsl3
  have HSZ := hid (show (Tryd.prog.info? 47).map (·.size) = some 2 by kernel_rfl)
  have HDL := hid (show D.length = (n - i) * 2 by rw [hD, ens_len, List.length_drop, hn])
  have HDM := hid (show n - i = Nat.min (n - i) (q - k) by have e : Nat.min (n - i) (q - k) = min (n - i) (q - k) := rfl; rw [e]; omega)
  have HDP := hid (show ∀ (y : World), Ext w y → ∀ j v, D[j]? = some v → y.cell? ((Addr.mk g (i * 2) none).add j) = some v from fun y hy j v hj => by
    rw [add_none]
    have hrd := (Rd.drop (b := g) (o := 0) (hr.keep hy) (i * 2))
    rw [show (ens l).drop (i * 2) = D by rw [hD]; exact flat_drop (f := ent2) (m := 2) (fun _ => rfl) l i, Nat.zero_add] at hrd
    obtain ⟨b', o', e, _, hc⟩ := hrd (by have := (List.getElem?_eq_some_iff.1 hj).1; omega)
    cases e
    exact hc j v hj)
  have HD1 := hid (show ∀ v ∈ D, v.oneCell' = true by rw [hD]; exact ens_one _)
  have HE1 := hid (show ∀ v ∈ E2, v.oneCell' = true by
    rw [hE2]; intro v hv; simp only [ent2, List.mem_cons, List.not_mem_nil, or_false] at hv; rcases hv with rfl | rfl <;> rfl)
  have HEL := hid (show E2.length = 1 * 2 by rw [hE2]; rfl)
  have HEM := hid (show 1 = Nat.min 1 (q - i) by have e : Nat.min 1 (q - i) = min 1 (q - i) := rfl; rw [e]; omega)
  have HVB := hid (show ∀ j v, E2[j]? = some v → W1.cell? ((Addr.mk vb 0 none).add j) = some v from fun j v hj => by
    rw [add_none, Nat.zero_add]
    refine ext_cell HX1.out ?_
    rw [hv.cell]; rw [hE2] at hj
    obtain ⟨s, t⟩ := x
    match j, hj with
    | 0, hj => exact hj
    | 1, hj => exact hj)
  have HEF := hid (show i * 2 + E2.length ≤ ROW.toList.length by rw [HEL.out, Array.length_toList, hRs]; omega)
  have HDF := hid (show k * 2 + D.length ≤ (splice ROW.toList (i * 2) E2).length by rw [length_splice _ _ _ HEF.out, HDL.out, Array.length_toList, hRs]; omega)
  have HFIN := hid (show (splice (splice ROW.toList (i * 2) E2) (k * 2) D).take ((n + 1) * 2) = ens (l.take i ++ x :: l.drop i) by
    rw [hk, hD, hE2]
    exact (ins_cells ROW.toList l x i n (by omega) hn (by rw [Array.length_toList, hRs]; omega) hRt).2)
  have HLEN := hid (show (ens (l.take i ++ x :: l.drop i)).length = (n + 1) * 2 by rw [ens_len]; simp; omega)
  have HSPL := hid (show (splice (splice ROW.toList (i * 2) E2) (k * 2) D).length = G * 2 by rw [length_splice _ _ _ HDF.out, length_splice _ _ _ HEF.out, Array.length_toList, hRs])
  have HQ := hid hq
  have HGN := hid hGn
  have HGM := hid hGm
  have HB := hid hb
  have hGI : (G : Int) ≤ 9223372036854775807 := by unfold maxLen at hGm; omega
  have hinI : (i : Int) < (n : Int) := by omega
  have hne1 : ((i : Int) == (n : Int)) = false := beq_eq_false_iff_ne.2 (by omega)
  have hw1 : IntKind.i64.wrap ((n : Int) + 1) = (q : Int) := by rw [IntKind.wrap_i64]; omega
  have hw2 : IntKind.i64.wrap ((i : Int) + 1) = (k : Int) := by rw [IntKind.wrap_i64]; omega
  have hw3 : IntKind.i64.wrap ((q : Int) - (i : Int)) = (p : Int) := by rw [IntKind.wrap_i64]; omega
  have hwk : IntKind.i64.wrap (k : Int) = (k : Int) := by rw [IntKind.wrap_i64]; omega
  have hwq : IntKind.i64.wrap (q : Int) = (q : Int) := by rw [IntKind.wrap_i64]; omega
  have hqI : (n : Int) + 1 = (q : Int) := by omega
  have hpI : (q : Int) - (i : Int) = (p : Int) := by omega
  have hwp : IntKind.i64.wrap (p : Int) = (p : Int) := by rw [IntKind.wrap_i64]; omega
  have hwp2 : wrap64 (p : Int) = (p : Int) := IntWalk.wrap64_in _ ⟨by omega, by omega⟩
  have hkI : (i : Int) + 1 = (k : Int) := by omega
  have hqc : (c : Int) < (q : Int) := by omega
  rw [← hq]
  clear hr hnc hi0 hz0 hzs hzb hzc hn ho hi hroom hnl hb hv hk hq hp hD hE2 hE0 hE0l hold hGn hGm hG hROW hRs hRt hW1
  go_enter Tryd.func116, Tryd.ntmps116
  go_wp2_with (first
    | (at_builtin; go_loud (refine Lib.wpList_append_run _ rfl _ _ _ _ rfl _ _ rfl rfl _ _ (hrz _) ?_))
    | (with_reducible (show wpList _ _ _ (⟨some 45, _, _, _, _, _⟩ :: _) _ _); go_loud (refine wpList_copy_m rfl (.tmp 43) (.tmp 44) 23 23 rfl 47 2 1 (some ⟨w.heap.size, i * 2, none⟩) (some ⟨vb, 0, none⟩) (q - i) (G - i) 1 1 rfl rfl w.heap.size (i * 2) ROW.toList 47 E2 Tryd.underlying23 HSZ.out HB1.out HEM.out HEL.out (fun _ => ⟨rfl, _, rfl, HVB.out⟩) HEF.out HE1.out ?_; intro w2 hg2 hgr2; have HG2 := hg2; have HX2 : Hid (Ext w w2) := hid (Below.grown HX1.out hgr2.out HX1.out.size (fun j hj => by cases hj; exact Nat.le_refl _)); clear hg2 hgr2)))
  have HG2d := hid (show w2.drew.heap[w.heap.size]? = _ from HG2.out)
  have HX2d : Hid (Ext w w2.drew) := hid (Ext.draw HX2.out)
  have HDPd := hid (HDP.out _ HX2d.out)
  go_region_law (go_loud (refine step_copy_m rfl (.tmp 50) (.tmp 53) 23 23 rfl 47 2 (n - i) (some ⟨w.heap.size, k * 2, none⟩) (some ⟨g, i * 2, none⟩) (q - k) (G - k) (n - i) (c - i) (by simp [Act.eval, Act.put]) (by simp [Act.eval, Act.put]) w.heap.size (k * 2) (splice ROW.toList (i * 2) E2) 47 D Tryd.underlying23 HSZ.out HG2d.out HDM.out HDL.out (fun _ => ⟨rfl, _, rfl, HDPd.out⟩) HDF.out HD1.out ?_; intro w4 hg4 hgr4))
  have HG4 := hg4
  have HX4 : Hid (Ext w w4) := hid (Below.grown HX2d.out hgr4.out HX2d.out.size (fun j hj => by cases hj; exact Nat.le_refl _))
  clear hg4 hgr4
  go_wp2
  go_returns
  refine ⟨G, rfl, ⟨by rw [HLEN.out, HQ.out], .inr ⟨w.heap.size, G, _, rfl, HB.out, HG4.out, HGN.out, HGM.out, ?_, ?_⟩⟩, HX4.out⟩
  · rw [List.size_toArray, HSPL.out]
  · rw [HQ.out]; exact HFIN.out
/-- slices.Insert of one entry -/
theorem insE_any (l : List Ent) (A : Option Addr) (n c i base vb : Nat) (x : Ent) (w : World) (hn : l.length = n) (ho : w.ownsRow base 47 2 (.slice A n c) n (ens l)) (hi : i ≤ n) (hnl : n ≤ 1000000) (hb : base ≤ w.heap.size) (hv : Blk w vb 47 #[.string x.1, .int .i64 x.2]) (hne : ∀ a, A = some a → vb ≠ a.block) :
    Calls Tryd.prog 116 #[.slice A n c, .int .i64 (i : Int), .slice (some ⟨vb, 0, none⟩) 1 1] w fun e w' => ∃ B d, e = .returned (.slice B (n + 1) d) ∧ w'.ownsRow base 47 2 (.slice B (n + 1) d) (n + 1) (ens (l.take i ++ x :: l.drop i)) ∧ w.grownBy w' (Value.slice A n c).ownBlock ∧ ((Value.slice B (n + 1) d).ownBlock = (Value.slice A n c).ownBlock ∨ (Value.slice B (n + 1) d).ownBlock = some w.heap.size) := by
  by_cases hin : i = n
  · subst hin
    have h := insE_end l A i c base vb x w ho hnl hb hv
    rw [show l.take i ++ x :: l.drop i = l ++ [x] by rw [List.take_of_length_le (by omega), List.drop_of_length_le (by omega)]]
    exact h
  · obtain ⟨g, rfl⟩ := own_some ho (by omega)
    by_cases hroom : n + 1 ≤ c
    · refine (insE_room l g n c i base vb x w hn ho (by omega) hroom hv (hne _ rfl)).mono ?_
      rintro e w' ⟨rfl, h1, h2⟩
      exact ⟨_, _, rfl, h1, h2, .inl rfl⟩
    · refine (insE_grow l g n c i base vb x w hn ho (by omega) (by omega) hnl hb hv).mono ?_
      rintro e w' ⟨d, rfl, h1, h2⟩
      exact ⟨_, _, rfl, h1, grown_ext h2, .inr rfl⟩
end Go.Proofs.YtolhifnlahllnaaDoor
