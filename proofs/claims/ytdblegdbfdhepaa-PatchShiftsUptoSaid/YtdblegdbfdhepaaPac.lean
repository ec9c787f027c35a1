/- Patch: framed: walk. -/
import Derived.Test.YtdblegdbfdhepaaPab
import Derived.Test.YtdblegdbfdhepaaOwf
namespace Go.Proofs.Ytdblegdbfdhepaa
open Go.RowKit Hy
set_option maxHeartbeats 1600000 in
theorem framed_any (l : List Nat) (A : Option Addr) (n cap : Nat) (w : World) (hn : l.length = n) (hr : Rd w A (u64s l)) (hl : ∀ x ∈ l, x < 18446744073709551616) (hnl : n ≤ 64) :
    Calls Try.prog 63 #[.slice A n cap] w fun e w' => ∃ B c, e = .returned (.agg #[.int .u64 (Pat.bas l : Nat), .slice B n c]) ∧ Rd w' B (u64s (Pat.mor l)) ∧ Ext w w' ∧ n ≤ c := by
  have hnI : (n : Int) ≤ 64 := by omega
  have HMIN := hid (fun (h1 : 1 ≤ n) (wx : World) (hx : Ext w wx) => min_any l A n cap wx hn (hr.keep hx) hl h1 hnl)
  have hb := Pat.bas_lt l hl
  have HLE := hid (Pat.bas_le l)
  have HZ := hid (show n = 0 → Pat.bas l = 0 from fun h => by rw [h] at hn; rw [List.length_eq_zero_iff.1 hn]; rfl)
  have HMOR := hid (show Pat.mor l = l.map (· - Pat.bas l) from rfl)
  obtain ⟨b, hbb⟩ : ∃ b, b = Pat.bas l := ⟨_, rfl⟩
  rw [← hbb] at HMIN hb HLE HZ HMOR ⊢
  have hbI : (b : Int) ≤ 18446744073709551615 := by omega
  have HR := hid hr
  have HN := hid hn
  have HL := hid hl
  have HNL := hid hnl
  clear hr hn hl hnl hb hbb
  by_cases h1 : 1 ≤ n
  · have h1I : (0 : Int) < (n : Int) := by omega
    have HM := hid (HMIN.out h1)
    clear HMIN HZ h1
    go_enter Try.func63, Try.ntmps63
    go_wp2_with fail
    refine Calls.mono (HM.out _ (((ext_refl w).new _).new _)) ?_
    rintro e _ ⟨rfl, rfl⟩
    go_wp2
    go_loopw [5, 14] (fun _ q wr => ∃ (i : Nat) (v : Value), i ≤ n ∧ q = .int .i64 i ∧ Blk wr (w.heap.size + 1) 67 #[.int .u64 (b : Int), v] ∧ Blk wr w.heap.size 67 #[.int .u64 0, .slice none 0 0] ∧ Hid (wr.ownsRow (w.heap.size + 1 + 1) 33 1 v i (u64s ((l.take i).map (· - b)))) ∧ Hid (Ext w wr) ∧ w.heap.size + 1 + 1 ≤ wr.heap.size) (fun _ q _ => n - (intOf q).toNat)
    case atStart => exact ⟨0, .slice none 0 0, Nat.zero_le _, rfl, Blk.newAt (by simp), (Blk.new w _ _).alloc _, hid (World.ownsRow_nil _ _ _ _), hid (((ext_refl w).new _).new _), by simp⟩
    case round =>
      obtain ⟨i, v, hi, rfl, B1, B0, HO, HX, hsz⟩ := hrel
      have HB1 := hid B1
      have HB0 := hid B0
      have HSZ := hid hsz
      have hc0 := B1.cell 0
      have hc1 := B1.cell 1
      have hf1 := B1.frozen 1
      obtain ⟨A3, c3, rfl, hrd3, _, hcc3, _⟩ := Rd.owned HO.out
      have HRD3 := hid hrd3
      have HCC3 := hid hcc3
      clear B1 B0 hsz hrd3 hcc3
      by_cases hlt : i < n
      · have hltI : (i : Int) < (n : Int) := by omega
        obtain ⟨x, hx⟩ : ∃ x, l[i]? = some x := ⟨_, List.getElem?_eq_getElem (by rw [HN.out]; exact hlt)⟩
        have hxl := HL.out x (List.mem_of_getElem? hx)
        have hbx := HLE.out x (List.mem_of_getElem? hx)
        obtain ⟨b1, o1, rfl, l1, c1⟩ := HR.out.num00 (by rw [HN.out]; omega)
        have d0 := (HX.out.cell (p := ⟨b1, o1 + i, none⟩) l1).trans (c1 i x hx)
        have HS := hid (show (l.take (i + 1)).map (· - b) = (l.take i).map (· - b) ++ [x - b] by rw [take_succ_snoc' hx]; simp)
        obtain ⟨y, hy⟩ : ∃ y, y = x - b := ⟨_, rfl⟩
        rw [← hy] at HS
        have hsub : (x : Int) - (b : Int) = (y : Int) := by omega
        have hxI : (x : Int) ≤ 18446744073709551615 := by omega
        have hyI : (y : Int) ≤ 18446744073709551615 := by omega
        have HI := hid (show i ≤ 64 by have := HNL.out; omega)
        generalize (l.take i).map (· - b) = L at *
        clear c1 hx hxl hbx hy
        go_wp2_with (at_builtin; refine wpList_app rfl (.tmp 19) (.tmp 24) rowU64 rfl _ i _ rfl (own_ext HO.out ((ext_refl _).new _)) _ 1 (u64s [y]) rfl (Src.rd Try.underlying22 _ 1 1 _ rfl (rd_lit rfl rfl) (u64s_one _) (fun h => by cases h)) (by have := HI.out; unfold maxLen; omega) (by have := HI.out; omega) (by have := HSZ.out; simp; omega) ?_; intro v' w3 hown3 hgrow hat hbel; obtain ⟨A4, k4, rfl, _⟩ := Rd.owned hown3; have O3 := hid hown3; have Bn1 := (HB1.out.alloc _).below hbel (Nat.lt_succ_self _); have Bn0 := (HB0.out.alloc _).below hbel (by omega); have X3 := hid (Below.trans (HX.out.new _) (hbel.mono (by omega))); have hsz3 := hbel.size; have hc1' := Bn1.cell 1; have hf1' := Bn1.frozen 1; have HBn1 := hid Bn1; have HBn0 := hid Bn0; have HS3 := hid hsz3; clear hown3 hgrow hat hbel Bn1 Bn0 hsz3 hc0 hc1 hf1)
        go_roundw
        case rel => exact ⟨i + 1, .slice A4 (i + 1) k4, by omega, by go_num, (HBn1.out.set 1 _).cast rfl, HBn0.out.far (by simp) _, hid (by rw [HS.out, u64s_app]; exact own_but O3.out ((but_refl _ _).put ⟨w.heap.size + 1, 1, none⟩ (.inl rfl) _) (Nat.lt_succ_self _)), hid (Below.setCell X3.out (Nat.le_succ _) _), by have := HSZ.out; have := HS3.out; simp at this ⊢; omega⟩
        case measure => simp [intOf]; omega
      · obtain rfl : i = n := by omega
        have hti : l.take i = l := List.take_of_length_le (by rw [HN.out]; exact Nat.le_refl _)
        rw [hti, ← HMOR.out] at HO
        clear hti hlt HRD3
        go_wp2_with (with_reducible (show wpList _ _ _ (⟨none, .store 67 (.tmp 2) (.tmp 28), _, _, _, _⟩ :: _) _ _); go_loud (refine wpList_store_blk rfl 67 (.tmp 2) (.tmp 28) rfl w.heap.size #[.int .u64 (b : Int), .slice A3 i c3] rfl rfl 67 _ HB0.out (by kernel_rfl) rfl (by simp [Value.oneCell']) w.heap.size (Nat.le_refl _) ?_; intro w6 hB6 hF6 hL6; have HB6 := hid hB6; have HF6 := hid hF6; have HL6 := hid hL6; clear hB6 hF6 hL6))
        refine bodyPost_ret (results_blk rfl _ _ w.heap.size 67 _ _ rfl HB6.out Try.underlying67 rfl (by kernel_rfl)) rfl ?_
        have hown6 := own_far HO.out (fun e => by have := (HO.out.lt _ e).1; omega) HF6.out
        obtain ⟨_, _, e, hrd6, _⟩ := Rd.owned hown6
        cases e
        exact ⟨_, _, rfl, hrd6, Below.trans HX.out HL6.out, HCC3.out⟩
  · have HB00 := hid (HZ.out (by omega))
    have h1I : ¬ (0 : Int) < (n : Int) := by omega
    have HN0 := hid (show n = 0 by omega)
    clear HMIN HZ h1
    go_enter Try.func63, Try.ntmps63
    go_wp2
    go_loopw [5, 14] (fun _ q wr => ∃ (i : Nat) (v : Value), i ≤ n ∧ q = .int .i64 i ∧ Blk wr (w.heap.size + 1) 67 #[.int .u64 (b : Int), v] ∧ Blk wr w.heap.size 67 #[.int .u64 0, .slice none 0 0] ∧ Hid (wr.ownsRow (w.heap.size + 1 + 1) 33 1 v i (u64s ((l.take i).map (· - b)))) ∧ Hid (Ext w wr) ∧ w.heap.size + 1 + 1 ≤ wr.heap.size) (fun _ q _ => n - (intOf q).toNat)
    case atStart => exact ⟨0, .slice none 0 0, Nat.zero_le _, rfl, by rw [HB00.out]; exact Blk.newAt (by simp), (Blk.new w _ _).alloc _, hid (World.ownsRow_nil _ _ _ _), hid (((ext_refl w).new _).new _), by simp⟩
    case round =>
      obtain ⟨i, v, hi, rfl, B1, B0, HO, HX, hsz⟩ := hrel
      have HB1 := hid B1
      have HB0 := hid B0
      have HSZ := hid hsz
      have hc0 := B1.cell 0
      have hc1 := B1.cell 1
      have hf1 := B1.frozen 1
      obtain ⟨A3, c3, rfl, hrd3, _, hcc3, _⟩ := Rd.owned HO.out
      have HRD3 := hid hrd3
      have HCC3 := hid hcc3
      clear B1 B0 hsz hrd3 hcc3
      by_cases hlt : i < n
      · exfalso; have := HN0.out; omega
      · obtain rfl : i = n := by omega
        have hti : l.take i = l := List.take_of_length_le (by rw [HN.out]; exact Nat.le_refl _)
        rw [hti, ← HMOR.out] at HO
        clear hti hlt HRD3
        go_wp2_with (with_reducible (show wpList _ _ _ (⟨none, .store 67 (.tmp 2) (.tmp 28), _, _, _, _⟩ :: _) _ _); go_loud (refine wpList_store_blk rfl 67 (.tmp 2) (.tmp 28) rfl w.heap.size #[.int .u64 (b : Int), .slice A3 i c3] rfl rfl 67 _ HB0.out (by kernel_rfl) rfl (by simp [Value.oneCell']) w.heap.size (Nat.le_refl _) ?_; intro w6 hB6 hF6 hL6; have HB6 := hid hB6; have HF6 := hid hF6; have HL6 := hid hL6; clear hB6 hF6 hL6))
        refine bodyPost_ret (results_blk rfl _ _ w.heap.size 67 _ _ rfl HB6.out Try.underlying67 rfl (by kernel_rfl)) rfl ?_
        have hown6 := own_far HO.out (fun e => by have := (HO.out.lt _ e).1; omega) HF6.out
        obtain ⟨_, _, e, hrd6, _⟩ := Rd.owned hown6
        cases e
        exact ⟨_, _, rfl, hrd6, Below.trans HX.out HL6.out, HCC3.out⟩
end Go.Proofs.Ytdblegdbfdhepaa
