/- the document's own SameTexts: its walk. -/
import Derived.Test.YtpheegfanljeeaaRows
import Derived.Test.YtpheegfanljeeaaTxt
namespace Go.Proofs.Ytpheegfanljeeaa
open Go.RowKit Hy
set_option maxHeartbeats 400000 in
theorem sameTexts_any (a b : List (List UInt8)) (A B : Option Addr) (n m ca cb : Nat) (w : World) (hn : a.length = n) (hm : b.length = m) (ha : Rd w A (txs a)) (hb : Rd w B (txs b)) (hnl : n ≤ 140737488355328) :
    Calls Try.prog 30 #[.slice A n ca, .slice B m cb] w fun e w' => e = .returned (.bool (sameTexts a b)) ∧ Ext w w' := by
  by_cases hl : n = m
  · subst hl
    by_cases h0 : n = 0
    · have e1 := List.eq_nil_of_length_eq_zero (hn.trans h0)
      have e2 := List.eq_nil_of_length_eq_zero (hm.trans h0)
      subst e1 e2 h0
      go_enter Try.func30, Try.ntmps30
      go_wp2
      refine wp_loop_rounds 1 ?_
      rw [rounds_succ]
      go_wp2
      go_returns
      exact ⟨rfl, ext_refl _⟩
    · obtain ⟨b1, o1, rfl, l1, c1⟩ := ha.texts 0 (by omega)
      obtain ⟨b2, o2, rfl, l2, c2⟩ := hb.texts 0 (by omega)
      have C1 := hid c1
      have C2 := hid c2
      have HN := hid hn
      have HM := hid hm
      clear c1 c2 ha hb hn hm
      go_enter Try.func30, Try.ntmps30
      go_wp2
      go_loopw [5] (fun i wr => ∃ k : Nat, k ≤ n ∧ i = .int .i64 k ∧ a.take k = b.take k ∧ Ext w wr) (fun i _ => n - (intOf i).toNat)
      case atStart => exact ⟨0, Nat.zero_le _, rfl, rfl, ext_refl _⟩
      case round =>
        obtain ⟨k, hk, rfl, ht, X⟩ := hrel
        have HT := hid ht
        clear ht
        by_cases hlt : k < n
        · have d1 := (X.cell (p := ⟨b1, o1 + k, none⟩) l1).trans (C1.out k (by rw [HN.out]; exact hlt))
          have d2 := (X.cell (p := ⟨b2, o2 + k, none⟩) l2).trans (C2.out k (by rw [HM.out]; exact hlt))
          have HE := hid (take_step a b k (by rw [HN.out]; exact hlt) (by rw [HM.out]; exact hlt) HT.out)
          have HD := hid (show a[k]'(by rw [HN.out]; exact hlt) ≠ b[k]'(by rw [HM.out]; exact hlt) → sameTexts a b = false from fun h => by unfold sameTexts; rw [decide_eq_false_iff_not]; rintro rfl; exact h rfl)
          generalize a[k]'(by rw [HN.out]; exact hlt) = x at *
          generalize b[k]'(by rw [HM.out]; exact hlt) = y at *
          obtain ⟨S, hS⟩ : ∃ S : ByteArray, S = ⟨x.toArray⟩ := ⟨_, rfl⟩
          obtain ⟨T, hT⟩ : ∃ T : ByteArray, T = ⟨y.toArray⟩ := ⟨_, rfl⟩
          rw [← hS] at d1
          rw [← hT] at d2
          by_cases hxy : x = y
          · have e1 : (S.toList == T.toList) = true := by rw [hS, hT, ByteArray.toList_mk, ByteArray.toList_mk, hxy]; simp
            have HE2 := hid (HE.out hxy)
            clear HE HD hS hT hxy
            go_wp2_with fail
            go_quiet (fail)
            go_wp2
            go_roundw
            case rel => exact ⟨k + 1, by omega, by go_num, HE2.out, X.draws _⟩
            case measure => simp [intOf]; omega
          · have e1 : (S.toList == T.toList) = false := by rw [hS, hT, ByteArray.toList_mk, ByteArray.toList_mk, beq_eq_false_iff_ne]; exact hxy
            have HD2 := hid (HD.out hxy)
            clear HE HD hS hT hxy
            go_wp2_with fail
            go_quiet (fail)
            go_wp2
            go_returns
            exact ⟨by rw [HD2.out]; rfl, X.draws _⟩
        · obtain rfl : k = n := by omega
          go_wp2
          go_returns
          refine ⟨?_, X⟩
          have := HT.out
          rw [List.take_of_length_le (by rw [HN.out]; exact Nat.le_refl _), List.take_of_length_le (by rw [HM.out]; exact Nat.le_refl _)] at this
          subst this
          simp [sameTexts]
  · have hf : sameTexts a b = false := by unfold sameTexts; rw [decide_eq_false_iff_not]; rintro rfl; omega
    have h3 : ((n : Int) == (m : Int)) = false := by rw [beq_eq_false_iff_ne]; omega
    have h4 : ((n : Int) != (m : Int)) = true := by rw [bne_iff_ne]; omega
    have HF := hid hf
    clear hf hn hm
    go_enter Try.func30, Try.ntmps30
    go_wp2
    go_returns
    exact ⟨by rw [HF.out]; rfl, ext_refl _⟩
end Go.Proofs.Ytpheegfanljeeaa
