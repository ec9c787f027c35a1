/- Cells: SameCells: walk. -/
import Derived.Test.YtolhifnlahllnaaGreatDoorCeq
import Derived.Test.YtolhifnlahllnaaGreatDoorGen
namespace Go.Proofs.YtolhifnlahllnaaGreatDoor
open Go.RowKit Hy
set_option maxHeartbeats 400000 in
theorem sameCells_any (a b : List Cel) (A B : Option Addr) (n m ca cb : Nat) (w : World) (hn : a.length = n) (hm : b.length = m) (ha : Rd w A (cls a)) (hb : Rd w B (cls b)) (hnl : n ≤ 140737488355328) :
    Calls Tryz.prog 30 #[.slice A n ca, .slice B m cb] w fun e w' => e = .returned (.bool (decide (a = b))) ∧ Ext w w' := by
  by_cases hl : n = m
  · subst hl
    by_cases h0 : n = 0
    · have e1 := List.eq_nil_of_length_eq_zero (hn.trans h0)
      have e2 := List.eq_nil_of_length_eq_zero (hm.trans h0)
      subst e1 e2 h0
      go_enter Tryz.func30, Tryz.ntmps30
      go_wp2
      refine wp_loop_rounds 1 ?_
      rw [rounds_succ]
      go_wp2
      go_returns
      exact ⟨rfl, ext_refl _⟩
    · obtain ⟨b1, o1, rfl, l1, c1⟩ := ha.cels 0 (by omega)
      obtain ⟨b2, o2, rfl, l2, c2⟩ := hb.cels 0 (by omega)
      have C1 := hid c1
      have C2 := hid c2
      have HN := hid hn
      have HM := hid hm
      clear c1 c2 ha hb hn hm
      go_enter Tryz.func30, Tryz.ntmps30
      go_wp2
      go_loopw [5] (fun i wr => ∃ k : Nat, k ≤ n ∧ i = .int .i64 k ∧ a.take k = b.take k ∧ Ext w wr) (fun i _ => n - (intOf i).toNat)
      case atStart => exact ⟨0, Nat.zero_le _, rfl, rfl, ext_refl _⟩
      case round =>
        obtain ⟨k, hk, rfl, ht, X⟩ := hrel
        have HT := hid ht
        clear ht
        by_cases hlt : k < n
        · have q1 := C1.out k (by rw [HN.out]; exact hlt)
          have q2 := C2.out k (by rw [HM.out]; exact hlt)
          have d1 := (X.cell (p := ⟨b1, o1 + k * 3, none⟩) l1).trans q1.1
          have d2 := (X.cell (p := ⟨b1, o1 + k * 3 + 1, none⟩) l1).trans q1.2.1
          have d3 := (X.cell (p := ⟨b1, o1 + k * 3 + 2, none⟩) l1).trans q1.2.2
          have d4 := (X.cell (p := ⟨b2, o2 + k * 3, none⟩) l2).trans q2.1
          have d5 := (X.cell (p := ⟨b2, o2 + k * 3 + 1, none⟩) l2).trans q2.2.1
          have d6 := (X.cell (p := ⟨b2, o2 + k * 3 + 2, none⟩) l2).trans q2.2.2
          clear q1 q2
          have HE := hid (take_step a b k (by rw [HN.out]; exact hlt) (by rw [HM.out]; exact hlt) HT.out)
          have HD := hid (show a[k]'(by rw [HN.out]; exact hlt) ≠ b[k]'(by rw [HM.out]; exact hlt) → decide (a = b) = false from fun h => by rw [decide_eq_false_iff_not]; rintro rfl; exact h rfl)
          generalize a[k]'(by rw [HN.out]; exact hlt) = x at *
          generalize b[k]'(by rw [HM.out]; exact hlt) = y at *
          obtain ⟨xk, xn, xs⟩ := x
          obtain ⟨yk, yn, ys⟩ := y
          simp only at d1 d2 d3 d4 d5 d6
          by_cases hxy : ((xk, xn, xs) : Cel) = (yk, yn, ys)
          · have HXY := hid hxy
            simp only [Prod.mk.injEq] at hxy
            obtain ⟨rfl, rfl, rfl⟩ := hxy
            go_wp2_with fail
            go_quiet (fail)
            go_wp2
            go_roundw
            case rel => exact ⟨k + 1, by omega, by go_num, HE.out (by trivial), X.draws _⟩
            case measure => simp [intOf]; omega
          · have hq := fun w => cel_neq xk yk xn yn xs ys w
            simp only [hxy, decide_false, Bool.not_false] at hq
            have HXY := hid hxy
            clear hxy
            go_wp2_with fail
            go_quiet (fail)
            go_wp2
            go_returns
            exact ⟨by rw [HD.out HXY.out]; rfl, X.draws _⟩
        · obtain rfl : k = n := by omega
          go_wp2
          go_returns
          refine ⟨?_, X⟩
          have := HT.out
          rw [List.take_of_length_le (by rw [HN.out]; exact Nat.le_refl _), List.take_of_length_le (by rw [HM.out]; exact Nat.le_refl _)] at this
          subst this
          simp
  · have hf : decide (a = b) = false := by rw [decide_eq_false_iff_not]; rintro rfl; omega
    have h3 : ((n : Int) == (m : Int)) = false := by rw [beq_eq_false_iff_ne]; omega
    have h4 : ((n : Int) != (m : Int)) = true := by rw [bne_iff_ne]; omega
    have HF := hid hf
    clear hf hn hm
    go_enter Tryz.func30, Tryz.ntmps30
    go_wp2
    go_returns
    exact ⟨by rw [HF.out]; rfl, ext_refl _⟩
end Go.Proofs.YtolhifnlahllnaaGreatDoor
