/- the document's own SameNums, NumsLess: walks. -/
import Derived.Test.YtpheegfanljeeaaRows
import Derived.Test.YtpheegfanljeeaaApp
import Derived.Test.YtpheegfanljeeaaNum
namespace Go.Proofs.Ytpheegfanljeeaa
open Go.RowKit Hy
set_option maxHeartbeats 400000 in
theorem sameNums_any (a b : List Nat) (A B : Option Addr) (n m ca cb : Nat) (w : World) (hn : a.length = n) (hm : b.length = m) (ha : Rd w A (u64s a)) (hb : Rd w B (u64s b)) (hnl : n ≤ 140737488355328) :
    Calls Try.prog 31 #[.slice A n ca, .slice B m cb] w fun e w' => e = .returned (.bool (sameNums a b)) ∧ Ext w w' := by
  by_cases hl : n = m
  · subst hl
    by_cases h0 : n = 0
    · have e1 := List.eq_nil_of_length_eq_zero (hn.trans h0)
      have e2 := List.eq_nil_of_length_eq_zero (hm.trans h0)
      subst e1 e2 h0
      go_enter Try.func31, Try.ntmps31
      go_wp2
      refine wp_loop_rounds 1 ?_
      rw [rounds_succ]
      go_wp2
      go_returns
      exact ⟨rfl, ext_refl _⟩
    · obtain ⟨b1, o1, rfl, l1, c1⟩ := ha.nums 0 (by omega)
      obtain ⟨b2, o2, rfl, l2, c2⟩ := hb.nums 0 (by omega)
      have C1 := hid c1
      have C2 := hid c2
      have HN := hid hn
      have HM := hid hm
      clear c1 c2 ha hb hn hm
      go_enter Try.func31, Try.ntmps31
      go_wp2
      go_loopw [5] (fun i wr => ∃ k : Nat, k ≤ n ∧ i = .int .i64 k ∧ a.take k = b.take k ∧ Ext w wr) (fun i _ => n - (intOf i).toNat)
      case atStart => exact ⟨0, Nat.zero_le _, rfl, rfl, ext_refl _⟩
      case round =>
        obtain ⟨k, hk, rfl, ht, X⟩ := hrel
        have HT := hid ht
        clear ht
        by_cases hlt : k < n
        · have d1 := (X.cell (p := ⟨b1, o1 + k, none⟩) l1).trans (C1.out k (by rw [HN.out]; exact hlt))
          have d2 := (X.cell (p := ⟨b2, o2 + k, none⟩) l2).trans (C2.out k (by rw [HM.out]; exact hlt))
          have HE := hid (numsLess_step a b k (by rw [HN.out]; exact hlt) (by rw [HM.out]; exact hlt) HT.out)
          have HD := hid (show a[k]'(by rw [HN.out]; exact hlt) ≠ b[k]'(by rw [HM.out]; exact hlt) → sameNums a b = false from fun h => by unfold sameNums; rw [decide_eq_false_iff_not]; rintro rfl; exact h rfl)
          generalize a[k]'(by rw [HN.out]; exact hlt) = x at *
          generalize b[k]'(by rw [HM.out]; exact hlt) = y at *
          by_cases hxy : x = y
          · subst hxy
            go_wp2_with fail
            go_quiet (fail)
            go_wp2
            go_roundw
            case rel => exact ⟨k + 1, by omega, by go_num, HE.out (by trivial), X.draws _⟩
            case measure => simp [intOf]; omega
          · have h3 : ((x : Int) == (y : Int)) = false := by rw [beq_eq_false_iff_ne]; omega
            have h4 : ((x : Int) != (y : Int)) = true := by rw [bne_iff_ne]; omega
            go_wp2_with fail
            go_quiet (fail)
            go_wp2
            go_returns
            exact ⟨by rw [HD.out hxy]; rfl, X.draws _⟩
        · obtain rfl : k = n := by omega
          go_wp2
          go_returns
          refine ⟨?_, X⟩
          have := HT.out
          rw [List.take_of_length_le (by rw [HN.out]; exact Nat.le_refl _), List.take_of_length_le (by rw [HM.out]; exact Nat.le_refl _)] at this
          subst this
          simp [sameNums]
  · have hf : sameNums a b = false := by unfold sameNums; rw [decide_eq_false_iff_not]; rintro rfl; omega
    have h3 : ((n : Int) == (m : Int)) = false := by rw [beq_eq_false_iff_ne]; omega
    have h4 : ((n : Int) != (m : Int)) = true := by rw [bne_iff_ne]; omega
    have HF := hid hf
    clear hf hn hm
    go_enter Try.func31, Try.ntmps31
    go_wp2
    go_returns
    exact ⟨by rw [HF.out]; rfl, ext_refl _⟩
theorem sameNums_self (a : List Nat) (A B : Option Addr) (n ca cb : Nat) (w : World) (hn : a.length = n) (ha : Rd w A (u64s a)) (hb : Rd w B (u64s a)) (hnl : n ≤ 140737488355328) :
    Calls Try.prog 31 #[.slice A n ca, .slice B n cb] w fun e w' => e = .returned (.bool true) ∧ Ext w w' := by
  have h := sameNums_any a a A B n n ca cb w hn hn ha hb hnl
  rw [show sameNums a a = true from decide_eq_true rfl] at h; exact h
end Go.Proofs.Ytpheegfanljeeaa
