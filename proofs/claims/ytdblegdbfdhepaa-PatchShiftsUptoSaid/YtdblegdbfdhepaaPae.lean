/- Patch: best; the document's CostOf: walks. -/
import Derived.Test.YtdblegdbfdhepaaPad
import Derived.Test.YtdblegdbfdhepaaVob
namespace Go.Proofs.Ytdblegdbfdhepaa
open Go.RowKit Hy
set_option maxHeartbeats 1000000 in
set_option maxRecDepth 100000 in
theorem best_any (M : List Nat) (B : Option Addr) (n c base : Nat) (w : World) (hn : M.length = n) (hr : Rd w B (u64s M)) (hl : ∀ x ∈ M, x < 18446744073709551616) (hnl : n ≤ 64) :
    Calls Try.prog 65 #[.agg #[.int .u64 base, .slice B n c]] w fun e w' => e = .returned (.int .i64 (Pat.bst M 64 : Nat)) ∧ Ext w w' := by
  have HC := hid (fun wd (h : wd ≤ 64) (wx : World) (hx : Ext w wx) => cost_any M B n c wd base wx hn (hr.keep hx) hl hnl h)
  have HE := hid (fun wd => show Bits.size n wd + Pat.xt wd M = Pat.cst M wd by unfold Pat.cst; rw [hn])
  have HB := hid (fun wd (h : wd ≤ 64) => show Pat.cst M wd ≤ 2000 by
    unfold Pat.cst
    have h1 := Pat.xt_le wd M
    have h2 := Nat.mul_le_mul (show M.length ≤ 64 by omega) h
    unfold Bits.size; omega)
  have HBL := hid (fun k => Pat.bst_le M k)
  have B0 := (Blk.new w 67 #[.int .u64 (base : Int), .slice B n c]).cell
  have p0 : (w.alloc (.cells #[.int .u64 (base : Int), .slice B n c] 67)).cell? ⟨w.heap.size, 0, none⟩ = some (.int .u64 (base : Int)) := B0 0
  have p1 : (w.alloc (.cells #[.int .u64 (base : Int), .slice B n c] 67)).cell? ⟨w.heap.size, 1, none⟩ = some (.slice B n c) := B0 1
  have HX0 := hid ((ext_refl w).new (.cells #[.int .u64 (base : Int), .slice B n c] 67))
  obtain ⟨W1, hW1⟩ : ∃ W1, W1 = w.alloc (.cells #[.int .u64 (base : Int), .slice B n c] 67) := ⟨_, rfl⟩
  rw [← hW1] at p0 p1 HX0
  have hlt1 : w.heap.size < W1.heap.size := by rw [hW1]; simp
  have HW1 := hid hW1
  clear hn hr hl hnl B0 hW1
  go_enter Try.func65, Try.ntmps65
  go_wp2
  go_loopw [3, 4] (fun b q wr => ∃ i : Nat, 1 ≤ i ∧ i ≤ 65 ∧ q = .int .i64 i ∧ b = .int .i64 (Pat.bst M (i - 1) : Nat) ∧ Ext W1 wr) (fun _ q _ => 65 - (intOf q).toNat)
  case atStart => exact ⟨1, by omega, by omega, rfl, rfl, by rw [HW1.out]; exact ext_refl _⟩
  case round =>
    obtain ⟨i, hi1, hi, rfl, rfl, X⟩ := hrel
    by_cases hlt : i ≤ 64
    · have hltI : (i : Int) ≤ 64 := by omega
      have d0 := (X.cell (p := ⟨w.heap.size, 0, none⟩) hlt1).trans p0
      have d1 := (X.cell (p := ⟨w.heap.size, 1, none⟩) hlt1).trans p1
      have d0r := cell_regrown d0
      have d1r := cell_regrown d1
      have hbl := HBL.out (i - 1)
      have HS := hid (show Pat.bst M i = if Pat.cst M i < Pat.cst M (Pat.bst M (i - 1)) then i else Pat.bst M (i - 1) by
        obtain ⟨j, rfl⟩ : ∃ j, i = j + 1 := ⟨i - 1, by omega⟩
        rfl)
      have C1 := hid (HC.out i hlt)
      have C2 := hid (HC.out (Pat.bst M (i - 1)) (by omega))
      rw [HE.out] at C1 C2
      have q1 := HB.out i hlt
      have q2 := HB.out (Pat.bst M (i - 1)) (by omega)
      generalize Pat.bst M (i - 1) = b at *
      obtain ⟨u, hu⟩ : ∃ u, u = Pat.cst M i := ⟨_, rfl⟩
      obtain ⟨v, hv⟩ : ∃ v, v = Pat.cst M b := ⟨_, rfl⟩
      rw [← hu] at C1 HS q1
      rw [← hv] at C2 HS q2
      have huI : (u : Int) ≤ 2000 := by omega
      have hvI : (v : Int) ≤ 2000 := by omega
      have hbI : (b : Int) ≤ 64 := by omega
      have HX := hid (HX0.out.then X)
      have HXW := hid X
      have HI := hid hlt
      clear q1 q2 hu hv hbl X d0 d1 hlt hi hi1
      go_wp2
      refine wp_region_walk [(0, true), (1, true), (3, true), (4, true), (2, false), (5, false), (6, true)] (by kernel_rfl) (by kernel_rfl) (fun _ _ _ _ _ h => h) (by kernel_rfl) (by rfl) ?_
      simp only [List.filterMap_cons, List.filterMap_nil, List.getElem?_toArray, List.getElem?_cons_zero, List.getElem?_cons_succ, Option.map_some]
      repeat (refine wpM_val (by rfl) ?_; intro K hK; go_big_quiet_op; go_big_quiet_on)
      have Y1 : Ext wr wr.drew := Ext.draw (ext_refl wr)
      refine wpM_do (by rfl) ?_
      intro K hK
      go_simp
      refine Calls.mono (C1.out _ (HX.out.then Y1)) ?_
      rintro e w2 ⟨rfl, hx⟩
      have Y2 := Y1.then hx
      refine hK _ _ Y2 ?_
      clear K hK hx
      refine wpM_do (by rfl) ?_
      intro K hK
      go_simp
      refine Calls.mono (C2.out _ (HX.out.then Y2)) ?_
      rintro e w3 ⟨rfl, hx⟩
      have Y3 := Y2.then hx
      refine hK _ _ Y3 ?_
      clear K hK hx
      repeat (refine wpM_val (by rfl) ?_; intro K hK; go_big_quiet_op; go_big_quiet_on)
      refine wpM_nil ?_
      have HXE := hid (HXW.out.then Y3)
      clear Y1 Y2 Y3 d0r d1r
      by_cases huv : u < v
      · have huvI : (u : Int) < (v : Int) := by omega
        have HV := hid (show Pat.bst M i = i by rw [HS.out, if_pos huv])
        clear huv
        go_wp2
        go_roundw
        case rel => exact ⟨i + 1, by omega, by have := HI.out; omega, by go_num, by rw [Nat.add_sub_cancel, HV.out], HXE.out⟩
        case measure => have := HI.out; simp [intOf]; omega
      · have huvI : ¬ (u : Int) < (v : Int) := by omega
        have HV := hid (show Pat.bst M i = b by rw [HS.out, if_neg huv])
        clear huv
        go_wp2
        go_roundw
        case rel => exact ⟨i + 1, by omega, by have := HI.out; omega, by go_num, by rw [Nat.add_sub_cancel, HV.out], HXE.out⟩
        case measure => have := HI.out; simp [intOf]; omega
    · obtain rfl : i = 65 := by omega
      go_wp2
      go_returns
      exact ⟨rfl, HX0.out.then X⟩
end Go.Proofs.Ytdblegdbfdhepaa
