/- Runs: the document's SameRuns: walk. -/
import Derived.Test.YtgobnpogmghgkaaRows
import Derived.Test.YtgobnpogmghgkaaRuc
namespace Hy
def sameRuns (a b : List Runs.Run) : Bool := decide (a = b)
theorem takeStep {α : Type} (a b : List α) (k : Nat) (h1 : k < a.length) (h2 : k < b.length) (ht : a.take k = b.take k) (e : a[k] = b[k]) : a.take (k + 1) = b.take (k + 1) := by
  rw [List.take_succ_eq_append_getElem h1, List.take_succ_eq_append_getElem h2, ht, e]
end Hy
namespace Go.Proofs.Ytgobnpogmghgkaa
open Go.RowKit Hy
set_option maxHeartbeats 400000 in
theorem sameRuns_any (a b : List Runs.Run) (A B : Option Addr) (n m ca cb : Nat) (w : World) (hn : a.length = n) (hm : b.length = m) (ha : Rd w A (rws a)) (hb : Rd w B (rws b)) (hnl : n ≤ 140737488355328) :
    Calls Try.prog 27 #[.slice A n ca, .slice B m cb] w fun e w' => e = .returned (.bool (sameRuns a b)) ∧ Ext w w' := by
  by_cases hl : n = m
  · subst hl
    by_cases h0 : n = 0
    · have e1 := List.eq_nil_of_length_eq_zero (hn.trans h0)
      have e2 := List.eq_nil_of_length_eq_zero (hm.trans h0)
      subst e1 e2 h0
      go_enter Try.func27, Try.ntmps27
      go_wp2
      refine wp_loop_rounds 1 ?_
      rw [rounds_succ]
      go_wp2
      go_returns
      exact ⟨rfl, ext_refl _⟩
    · obtain ⟨b1, o1, rfl, l1, c1⟩ := ha.runs 0 (by omega)
      obtain ⟨b2, o2, rfl, l2, c2⟩ := hb.runs 0 (by omega)
      have C1 := hid c1
      have C2 := hid c2
      have HN := hid hn
      have HM := hid hm
      clear c1 c2 ha hb hn hm
      go_enter Try.func27, Try.ntmps27
      go_wp2
      go_loopw [5] (fun i wr => ∃ k : Nat, k ≤ n ∧ i = .int .i64 k ∧ a.take k = b.take k ∧ Ext w wr) (fun i _ => n - (intOf i).toNat)
      case atStart => exact ⟨0, Nat.zero_le _, rfl, rfl, ext_refl _⟩
      case round =>
        obtain ⟨k, hk, rfl, ht, X⟩ := hrel
        have HT := hid ht
        clear ht
        by_cases hlt : k < n
        · have d1 := (X.cell (p := ⟨b1, o1 + k * 2, none⟩) l1).trans (C1.out k (by rw [HN.out]; exact hlt)).1
          have f1 := (X.cell (p := ⟨b1, o1 + k * 2 + 1, none⟩) l1).trans (C1.out k (by rw [HN.out]; exact hlt)).2
          have d2 := (X.cell (p := ⟨b2, o2 + k * 2, none⟩) l2).trans (C2.out k (by rw [HM.out]; exact hlt)).1
          have f2 := (X.cell (p := ⟨b2, o2 + k * 2 + 1, none⟩) l2).trans (C2.out k (by rw [HM.out]; exact hlt)).2
          have HE := hid (takeStep a b k (by rw [HN.out]; exact hlt) (by rw [HM.out]; exact hlt) HT.out)
          have HD := hid (show a[k]'(by rw [HN.out]; exact hlt) ≠ b[k]'(by rw [HM.out]; exact hlt) → sameRuns a b = false from fun h => by unfold sameRuns; rw [decide_eq_false_iff_not]; rintro rfl; exact h rfl)
          generalize a[k]'(by rw [HN.out]; exact hlt) = x at *
          generalize b[k]'(by rw [HM.out]; exact hlt) = y at *
          obtain ⟨xv, xn⟩ := x
          obtain ⟨yv, yn⟩ := y
          by_cases hxy : ((xv, xn) : Runs.Run) = (yv, yn)
          · obtain ⟨rfl, rfl⟩ : xv = yv ∧ xn = yn := by simpa using hxy
            have HE2 := hid (HE.out hxy)
            clear HE HD hxy
            go_wp2_with fail
            go_quiet (fail)
            go_wp2
            go_roundw
            case rel => exact ⟨k + 1, by omega, by go_num, HE2.out, X.draws _⟩
            case measure => simp [intOf]; omega
          · have hne : ¬ (xv = yv ∧ xn = yn) := by simpa using hxy
            have HD2 := hid (HD.out hxy)
            clear HE HD hxy
            by_cases h : xv = yv
            · subst h
              have h2 : xn ≠ yn := fun h2 => hne ⟨rfl, h2⟩
              have e1 : (xn == yn) = false := by rw [beq_eq_false_iff_ne]; exact h2
              clear hne
              go_wp2_with fail
              go_quiet (fail)
              go_wp2
              go_returns
              exact ⟨by rw [HD2.out]; rfl, X.draws _⟩
            · have e1 : ((xv : Int) == (yv : Int)) = false := by rw [beq_eq_false_iff_ne]; omega
              clear hne
              go_wp2_with fail
              go_quiet (fail)
              go_wp2
              go_returns
              exact ⟨by rw [HD2.out]; rfl, X.draws _⟩
        · obtain rfl : k = n := by omega
          go_wp2
          go_returns
          refine ⟨?_, X⟩
          have := HT.out
          rw [List.take_of_length_le (by rw [HN.out]; exact Nat.le_refl _), List.take_of_length_le (by rw [HM.out]; exact Nat.le_refl _)] at this
          subst this
          simp [sameRuns]
  · have hf : sameRuns a b = false := by unfold sameRuns; rw [decide_eq_false_iff_not]; rintro rfl; omega
    have h3 : ((n : Int) == (m : Int)) = false := by rw [beq_eq_false_iff_ne]; omega
    have h4 : ((n : Int) != (m : Int)) = true := by rw [bne_iff_ne]; omega
    have HF := hid hf
    clear hf hn hm
    go_enter Try.func27, Try.ntmps27
    go_wp2
    go_returns
    exact ⟨by rw [HF.out]; rfl, ext_refl _⟩
end Go.Proofs.Ytgobnpogmghgkaa
