/- Marks compared, counted: walks (no cells in sight: it serves seats without cells). -/
import Derived.Test.YtikdmnedbfpkeaaDoorCnt
import Derived.Test.YtikdmnedbfpkeaaDoorSli
namespace Hy
open Go Go.RowKit
theorem take_step {α : Type} (a b : List α) (k : Nat) (h1 : k < a.length) (h2 : k < b.length) (ht : a.take k = b.take k) (e : a[k] = b[k]) : a.take (k + 1) = b.take (k + 1) := by
  rw [List.take_succ_eq_append_getElem h1, List.take_succ_eq_append_getElem h2, ht, e]
theorem bls_one (l : List Bool) : ∀ u ∈ bls l, u.oneCell' = true := fun u hu => by
  unfold bls at hu; obtain ⟨x, _, rfl⟩ := List.mem_map.1 hu; rfl
theorem bls_app (l m : List Bool) : bls (l ++ m) = bls l ++ bls m := by simp [bls]
theorem count_take (l : List Bool) (k : Nat) (h : k < l.length) : (l.take (k + 1)).count true = (l.take k).count true + if l[k] then 1 else 0 := by
  rw [List.take_succ_eq_append_getElem h, List.count_append]
  cases l[k] <;> simp
theorem own_ne {w : World} {base : Nat} {e1 e2 : TypeId} {s1 s2 n m : Nat} {v u : Value} {xs ys : List Value} (h1 : w.ownsRow base e1 s1 v n xs) (h2 : w.ownsRow base e2 s2 u m ys) (hne : e1 ≠ e2) : v.ownBlock = none ∨ v.ownBlock ≠ u.ownBlock := by
  rcases h1.2 with ⟨rfl, _⟩ | ⟨g, cap, cur, rfl, _, hg, _⟩
  · exact .inl rfl
  · rcases h2.2 with ⟨rfl, _⟩ | ⟨g', cap', cur', rfl, _, hg', _⟩
    · exact .inr (by simp [Value.ownBlock])
    · refine .inr fun h => ?_
      simp only [Value.ownBlock, Option.some.injEq] at h
      subst h
      rw [hg] at hg'
      simp only [Option.some.injEq, Obj.cells.injEq] at hg'
      exact hne hg'.2.1
end Hy
namespace Go.Proofs.YtikdmnedbfpkeaaDoor
open Go.RowKit Hy
theorem rowBl : RowT Tryd.prog 22 4 1 1 := RowT.mk' (z := .bool false) Tryd.underlying22 (by kernel_rfl) rfl (by decide)
set_option maxHeartbeats 400000 in
theorem sameMarks_any (a b : List Bool) (A B : Option Addr) (n m ca cb : Nat) (w : World) (hn : a.length = n) (hm : b.length = m) (ha : Rd w A (bls a)) (hb : Rd w B (bls b)) (hnl : n ≤ 140737488355328) :
    Calls Tryd.prog 18 #[.slice A n ca, .slice B m cb] w fun e w' => e = .returned (.bool (decide (a = b))) ∧ Ext w w' := by
  by_cases hl : n = m
  · subst hl
    by_cases h0 : n = 0
    · have e1 := List.eq_nil_of_length_eq_zero (hn.trans h0)
      have e2 := List.eq_nil_of_length_eq_zero (hm.trans h0)
      subst e1 e2 h0
      go_enter Tryd.func18, Tryd.ntmps18
      go_wp2
      refine wp_loop_rounds 1 ?_
      rw [rounds_succ]
      go_wp2
      go_returns
      exact ⟨rfl, ext_refl _⟩
    · obtain ⟨b1, o1, rfl, l1, c1⟩ := ha.bool (by omega)
      obtain ⟨b2, o2, rfl, l2, c2⟩ := hb.bool (by omega)
      have C1 := hid c1
      have C2 := hid c2
      have HN := hid hn
      have HM := hid hm
      clear c1 c2 ha hb hn hm
      go_enter Tryd.func18, Tryd.ntmps18
      go_wp2
      go_loopw [5] (fun i wr => ∃ k : Nat, k ≤ n ∧ i = .int .i64 k ∧ a.take k = b.take k ∧ Ext w wr) (fun i _ => n - (intOf i).toNat)
      case atStart => exact ⟨0, Nat.zero_le _, rfl, rfl, ext_refl _⟩
      case round =>
        obtain ⟨k, hk, rfl, ht, X⟩ := hrel
        have HT := hid ht
        clear ht
        by_cases hlt : k < n
        · have d1 := (X.cell (p := ⟨b1, o1 + k, none⟩) l1).trans (C1.out k (by rw [HN.out]; exact hlt))
          have d2 := (X.cell (p := ⟨b2, o2 + k, none⟩) l2).trans (C2.out k (by rw [HM.out]; exact hlt))
          have HE := hid (take_step a b k (by rw [HN.out]; exact hlt) (by rw [HM.out]; exact hlt) HT.out)
          have HD := hid (show a[k]'(by rw [HN.out]; exact hlt) ≠ b[k]'(by rw [HM.out]; exact hlt) → decide (a = b) = false from fun h => by rw [decide_eq_false_iff_not]; rintro rfl; exact h rfl)
          generalize a[k]'(by rw [HN.out]; exact hlt) = x at *
          generalize b[k]'(by rw [HM.out]; exact hlt) = y at *
          by_cases hxy : x = y
          · subst hxy
            go_wp2_with fail
            go_quiet (fail)
            go_wp2
            go_roundw
            case rel => exact ⟨k + 1, by omega, by go_num, HE.out (by trivial), X.draws _⟩
            case measure => simp [intOf]; omega
          · have h3 : (x == y) = false := by rw [beq_eq_false_iff_ne]; exact hxy
            have h4 : (x != y) = true := by rw [bne_iff_ne]; exact hxy
            go_wp2_with fail
            go_quiet (fail)
            go_wp2
            go_returns
            exact ⟨by rw [HD.out hxy]; rfl, X.draws _⟩
        · obtain rfl : k = n := by omega
          go_wp2
          go_returns
          refine ⟨?_, X⟩
          have := HT.out
          rw [List.take_of_length_le (by rw [HN.out]; exact Nat.le_refl _), List.take_of_length_le (by rw [HM.out]; exact Nat.le_refl _)] at this
          subst this
          simp
  · have hf : decide (a = b) = false := by rw [decide_eq_false_iff_not]; rintro rfl; omega
    have h3 : ((n : Int) == (m : Int)) = false := by rw [beq_eq_false_iff_ne]; omega
    have h4 : ((n : Int) != (m : Int)) = true := by rw [bne_iff_ne]; omega
    have HF := hid hf
    clear hf hn hm
    go_enter Tryd.func18, Tryd.ntmps18
    go_wp2
    go_returns
    exact ⟨by rw [HF.out]; rfl, ext_refl _⟩
set_option maxHeartbeats 400000 in
theorem countOf_any (l : List Bool) (at' : Nat) (A : Option Addr) (n cap : Nat) (w : World) (hn : l.length = n) (hr : Rd w A (bls l)) (hat : at' ≤ n) (hnl : n ≤ 140737488355328) :
    Calls Tryd.prog 15 #[.slice A n cap, .int .i64 at'] w fun e w' => e = .returned (.int .i64 ((l.take at').count true : Nat)) ∧ w = w' := by
  have HN := hid hn; have HRR := hid hr
  have h1 : (at' : Int) ≤ (n : Int) := by omega
  have h2 : (n : Int) ≤ 140737488355328 := by omega
  clear hn hr
  go_enter Tryd.func15, Tryd.ntmps15
  go_wp2
  go_loop [5, 6] (fun s c => ∃ i : Nat, i ≤ at' ∧ c = .int .i64 i ∧ s = .int .i64 ((l.take i).count true : Nat)) (fun _ c => at' - (intOf c).toNat)
  case atStart => exact ⟨0, Nat.zero_le _, rfl, rfl⟩
  case round =>
    obtain ⟨i, hi, rfl, rfl⟩ := hrel
    by_cases hlt : i < at'
    · have hia : i < l.length := by rw [HN.out]; omega
      obtain ⟨b1, o1, e1, l1, c1⟩ := HRR.out.bool (by omega)
      subst e1
      have d0 := c1 i hia
      have HS := hid (count_take l i hia)
      have hle : (l.take i).count true ≤ i := Nat.le_trans List.count_le_length (List.length_take_le _ _)
      obtain ⟨b, hb⟩ : ∃ b, b = l[i] := ⟨_, rfl⟩
      rw [← hb] at d0 HS
      generalize (l.take i).count true = S at *
      have hS : (S : Int) ≤ 140737488355328 := by omega
      clear hle c1 hia hb
      cases b
      · go_wp2
        go_round
        case rel => exact ⟨i + 1, by omega, by go_num, by rw [HS.out]; rfl⟩
        case measure => simp [intOf]; omega
      · go_wp2
        go_round
        case rel => exact ⟨i + 1, by omega, by go_num, by rw [HS.out]; go_num⟩
        case measure => simp [intOf]; omega
    · have hin : i = at' := by omega
      subst hin
      go_wp2
      go_returns
      exact ⟨rfl, rfl⟩
theorem rank_any (l : List Bool) (at' : Nat) (A : Option Addr) (n cap : Nat) (w : World) (hn : l.length = n) (hr : Rd w A (bls l)) (hcap : n ≤ cap) (hat : at' ≤ n) (hnl : n ≤ 140737488355328) :
    Calls Tryd.prog 9 #[.slice A n cap, .int .i64 at'] w fun e w' => e = .returned (.tuple #[.int .i64 ((l.take at').count true : Nat), .int .i64 0]) ∧ Ext w w' := by
  have hT := fun wx : World => sl_to (P := Tryd.prog) (t := 22) (e := 4) (m := 1) Tryd.underlying22 (by kernel_rfl) A n cap .i64 at' (by omega) wx
  have hr2 : Rd w A (bls (l.take at')) := by
    have e : bls l = bls (l.take at') ++ bls (l.drop at') := by rw [← bls_app, List.take_append_drop]
    rw [e] at hr; exact hr.pre
  have HC := hid (count_any (l.take at') A at' cap w (by rw [List.length_take]; omega) hr2 (by omega))
  have h1 : (at' : Int) ≤ (n : Int) := by omega
  have h0 : (0 : Int) ≤ (at' : Int) := by omega
  clear hn hr hr2
  go_enter Tryd.func9, Tryd.ntmps9
  go_wp2_with fail
  refine Calls.mono HC.out ?_
  rintro e w1 ⟨rfl, hx⟩
  have HX := hid hx
  clear hx
  go_wp2
  go_returns
  exact ⟨rfl, HX.out⟩
end Go.Proofs.YtikdmnedbfpkeaaDoor
