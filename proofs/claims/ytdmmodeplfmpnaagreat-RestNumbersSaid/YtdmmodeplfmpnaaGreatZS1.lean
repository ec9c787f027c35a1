/- Texts of this claim, put together: walks and plain laws. -/
import Derived.Test.YtdmmodeplfmpnaaGreatZG1
import Derived.Test.YtdmmodeplfmpnaaGreatRows
import Derived.ProofKit
import Derived.OpenShut
import Derived.JoinedCond
import Derived.SizedLaws
import Derived.Deep.CondSized
import Derived.Deep.Slices
import Derived.Deep.Fields
import Derived.Lib.SmallJoins
section
section
namespace Hy
open Go Go.RowKit Go.ChangeShapes Go.WideShapes Go.ChangeAt
section
variable {H : Type} {enc : TypeId × Value → H} {P : Program}
theorem trodAll_stays (hl : laidOutB P = true) {W W' : World} (hb : Ext W W') {sp : Nat → Bool} : ∀ {ts : List TypeId} {vs : List Value} {ds : List (DataW H)} {ps : List MemPlace},
    (ts.all fun t => P.readableRec t && decide (t < P.types.size)) = true → DataW.TrodAll enc P W 0 (fun _ => true) true ts vs ds ps → (∀ x ∈ ps, x.block < W.heap.size) → (∀ x ∈ ps, sp x.block = true) → DataW.TrodAll enc P W' 0 sp true ts vs ds ps
  | [], vs, ds, ps, _, h, _, _ => by obtain ⟨rfl, rfl, rfl⟩ := trodAll_nil h; exact trodAll_mk0
  | t :: ts, vs, ds, ps, hr, h, hlt, hsp => by
    obtain ⟨v, vs', d, ds', p, q, rfl, rfl, rfl, h1, h2⟩ := trodAll_cons h
    simp only [List.all_cons, Bool.and_eq_true, decide_eq_true_eq] at hr
    exact trodAll_cons_mk
      (WideElems.Trod_stays hl hr.1.1 hr.1.2 h1 (fun x hx => hb.same (hlt x (List.mem_append.2 (.inl hx)))) (fun x hx => hsp x (List.mem_append.2 (.inl hx))))
      (trodAll_stays hl hb hr.2 h2 (fun x hx => hlt x (List.mem_append.2 (.inr hx))) (fun x hx => hsp x (List.mem_append.2 (.inr hx))))
theorem law_post {f : Func} {s : ChangeSpec} {W W' : World} {args : Array Value} {ds : List (DataW H)} {before : List MemPlace} {tb : TypeId}
    (hl : laidOutB P = true) (hr : (f.params.toList.all fun t => P.readableRec t && decide (t < P.types.size)) = true) (hv : s.vars = [])
    (hW : DataW.Whole enc P f.params.toList s.vars false W args.toList ds [] before) (hb : Ext W W')
    (hres : f.resultTypes = #[tb]) (htb : P.underlying tb = some .bool) (hfn : s.fn H (ds ++ []) = { results := [.lit (.bool true)], args := ds, vars := [] }) :
    s.post enc P f false true false false W args (.bool true) W' := by
  have hW' := hW
  obtain ⟨p, q, hA, hV, rfl, _, _⟩ := hW
  rw [hv] at hV
  obtain ⟨_, rfl⟩ := trodVars_none hV
  have hlt : ∀ x ∈ p, x.block < W.heap.size := fun x hx => hW'.lt x (by simpa using hx)
  refine ⟨ds, [], p ++ [], [], p, [], hW', ?_, ?_, ?_, Below.frame hb _, fun h => by cases h⟩
  · rw [hfn, hres]
    exact trodAll_cons_mk (shut_bool htb true) trodAll_mk0
  · rw [hfn]
    exact trodAll_stays hl hb hr hA hlt (fun x hx => by simpa using hlt x hx)
  · rw [hfn, hv]
    rfl
end
end Hy
end
section
namespace Hy
open Go Go.RowKit Go.ChangeShapes Go.WideShapes Go.ChangeAt
theorem add_mk (a : Addr) (h : a.spot = none) (i : Nat) : a.add i = ⟨a.block, a.off + i, none⟩ := by
  obtain ⟨b, o, sp⟩ := a
  simp only at h
  subst h
  exact add_none b o i
theorem spot_none {w : World} {a : Addr} {i : Nat} {v : Value} (h : w.cell? (a.add i) = some v) : i = 0 → a.spot = none := by
  rintro rfl
  have e : a.add 0 = a := by unfold Addr.add; simp
  rw [e] at h
  unfold World.cell? at h
  split at h
  · split at h
    · cases h
    · rename_i hs; cases hh : a.spot with
      | none => rfl
      | some x => rw [hh] at hs; simp at hs
  · cases h
section
variable {H : Type} {enc : TypeId × Value → H} {P : Program} {w : World} {base : Nat} {spare : Nat → Bool} {held : Bool}
def IsNums (d : DataW H) (l : List Nat) : Prop := (d = .nil ∧ l = []) ∨ ∃ sp : List (DataW H), d = .slice (l.map fun n : Nat => .lit (.int .u64 (n : Int))) sp
theorem open_nums {t e : TypeId} (ht : P.underlying t = some (.slice e)) (he : P.underlying e = some (.int .u64)) (hc : P.cellsOf e = 1)
    {r : Reach} {b0 : Nat} {v : Value} {d : DataW H} {ps : List MemPlace} (hv : Value.okWide P w r b0 t v) (h : DataW.Trod enc P w base spare held t v d ps) :
    ∃ (A : Option Addr) (len cap : Nat) (l : List Nat), v = .slice A len cap ∧ l.length = len ∧ len ≤ cap ∧ cap ≤ maxLen ∧ Rd w A (u64s l) ∧ (∀ x ∈ l, x < 18446744073709551616) ∧ IsNums d l := by
  obtain ⟨a0, len0, cap0, rfl⟩ := okWide_slice ht hv
  obtain ⟨fuel, hf⟩ := h
  rcases open_ints ht he hc hf with ⟨hcs, hx⟩ | ⟨a, len, cap, zs, hcs, hb, hl, hm, hz, hx, hcell, hwf⟩
  · simp only [Value.cells, List.cons.injEq, Value.slice.injEq, and_true] at hcs
    obtain ⟨rfl, rfl, rfl⟩ := hcs
    simp only [Prod.mk.injEq] at hx
    exact ⟨none, 0, 0, [], rfl, rfl, Nat.le_refl _, Nat.zero_le _, (fun hp => absurd hp (by simp [u64s])), (fun x hx => by cases hx), .inl ⟨hx.1, rfl⟩⟩
  · simp only [Value.cells, List.cons.injEq, Value.slice.injEq, and_true] at hcs
    obtain ⟨rfl, rfl, rfl⟩ := hcs
    simp only [Prod.mk.injEq] at hx
    have hlz : len0 ≤ zs.length := by rw [hz]; split <;> omega
    have hbd : ∀ n ∈ zs, 0 ≤ n ∧ n < 18446744073709551616 := fun n hn => by have := bounds_u64 (hwf n hn); omega
    have hlen : ((zs.take len0).map Int.toNat).length = len0 := by simp; omega
    have hget : ∀ i (hi : i < zs.length), zs.getD i 0 = zs[i] := fun i hi => by simp [hi]
    refine ⟨some a, len0, cap0, (zs.take len0).map Int.toNat, rfl, hlen, hl, hm, fun hpos => ?_, fun x hx => ?_, .inr ⟨lits .u64 (zs.drop len0), ?_⟩⟩
    · rw [u64s_len, hlen] at hpos
      have h0 := hcell 0 (by omega)
      have hsp := spot_none h0 rfl
      refine ⟨a.block, a.off, ?_, ?_, fun j u hu => ?_⟩
      · obtain ⟨b, o, sp⟩ := a
        simp only at hsp
        subst hsp; rfl
      · have := block_lt_of_cell h0
        rw [add_mk a hsp] at this; exact this
      · have hj : j < len0 := by
          have := (List.getElem?_eq_some_iff.1 hu).1
          rw [u64s_len, hlen] at this; exact this
        rw [u64s_get _ _ (by rw [hlen]; exact hj)] at hu
        have h1 := hcell j (by omega)
        rw [add_mk a hsp] at h1
        rw [h1, hget j (by omega), ← hu]
        simp only [List.getElem_map, List.getElem_take]
        rw [Int.toNat_of_nonneg (hbd _ (List.getElem_mem _)).1]
    · obtain ⟨n, hn, rfl⟩ := List.mem_map.1 hx
      have := hbd n (List.mem_of_mem_take hn)
      omega
    · rw [hx.1]
      congr 1
      unfold lits
      rw [List.map_map]
      apply List.map_congr_left
      intro n hn
      have := hbd n (List.mem_of_mem_take hn)
      simp only [Function.comp]
      rw [Int.toNat_of_nonneg this.1]
theorem sized_nums {ts : List TypeId} {ds : List (DataW H)} (h : (DataW.weightsEach P ts ds).all (· ≤ reachBytes) = true) {j : Nat} {t e : TypeId} {l : List Nat} {d : DataW H} (hu : P.underlying t = some (.slice e))
    (ht : ts[j]? = some t) (hd : ds[j]? = some d) (hl : IsNums d l) : l.length * P.bytesOf e ≤ reachBytes := by
  rcases hl with ⟨rfl, rfl⟩ | ⟨sp, rfl⟩
  · simp
  · have hall := List.all_eq_true.1 h
    have h1 := hall _ (DataW.weights_mem_each ht hd (((l.map fun n : Nat => DataW.lit (H := H) (.int .u64 (n : Int))).length + sp.length) * P.bytesOf e) (by simp [DataW.weights, hu]))
    simp only [decide_eq_true_eq, List.length_map] at h1
    exact Nat.le_trans (Nat.mul_le_mul_right _ (by omega)) h1
end
end Hy
end
end
section
namespace Go.Proofs.YtdmmodeplfmpnaaGreat
open Go.RowKit Hy
set_option maxHeartbeats 400000 in
theorem sameNums_any (a b : List Nat) (A B : Option Addr) (n m ca cb : Nat) (w : World) (hn : a.length = n) (hm : b.length = m) (ha : Rd w A (u64s a)) (hb : Rd w B (u64s b)) (hnl : n ≤ 140737488355328) :
    Calls Tryz.prog 21 #[.slice A n ca, .slice B m cb] w fun e w' => e = .returned (.bool (sameNums a b)) ∧ Ext w w' := by
  by_cases hl : n = m
  · subst hl
    by_cases h0 : n = 0
    · have e1 := List.eq_nil_of_length_eq_zero (hn.trans h0)
      have e2 := List.eq_nil_of_length_eq_zero (hm.trans h0)
      subst e1 e2 h0
      go_enter Tryz.func21, Tryz.ntmps21
      go_wp2
      refine wp_loop_rounds 1 ?_
      rw [rounds_succ]
      go_wp2
      go_returns
      exact ⟨rfl, ext_refl _⟩
    · obtain ⟨b1, o1, rfl, l1, c1⟩ := ha.nums 0 (by omega)
      obtain ⟨b2, o2, rfl, l2, c2⟩ := hb.nums 0 (by omega)
      have C1 := hid c1
      have C2 := hid c2
      have HN := hid hn
      have HM := hid hm
      clear c1 c2 ha hb hn hm
      go_enter Tryz.func21, Tryz.ntmps21
      go_wp2
      go_loopw [5] (fun i wr => ∃ k : Nat, k ≤ n ∧ i = .int .i64 k ∧ a.take k = b.take k ∧ Ext w wr) (fun i _ => n - (intOf i).toNat)
      case atStart => exact ⟨0, Nat.zero_le _, rfl, rfl, ext_refl _⟩
      case round =>
        obtain ⟨k, hk, rfl, ht, X⟩ := hrel
        have HT := hid ht
        clear ht
        by_cases hlt : k < n
        · have d1 := (X.cell (p := ⟨b1, o1 + k, none⟩) l1).trans (C1.out k (by rw [HN.out]; exact hlt))
          have d2 := (X.cell (p := ⟨b2, o2 + k, none⟩) l2).trans (C2.out k (by rw [HM.out]; exact hlt))
          have HE := hid (numsLess_step a b k (by rw [HN.out]; exact hlt) (by rw [HM.out]; exact hlt) HT.out)
          have HD := hid (show a[k]'(by rw [HN.out]; exact hlt) ≠ b[k]'(by rw [HM.out]; exact hlt) → sameNums a b = false from fun h => by unfold sameNums; rw [decide_eq_false_iff_not]; rintro rfl; exact h rfl)
          generalize a[k]'(by rw [HN.out]; exact hlt) = x at *
          generalize b[k]'(by rw [HM.out]; exact hlt) = y at *
          by_cases hxy : x = y
          · subst hxy
            go_wp2_with fail
            go_quiet (fail)
            go_wp2
            go_roundw
            case rel => exact ⟨k + 1, by omega, by go_num, HE.out (by trivial), X.draws _⟩
            case measure => simp [intOf]; omega
          · have h3 : ((x : Int) == (y : Int)) = false := by rw [beq_eq_false_iff_ne]; omega
            have h4 : ((x : Int) != (y : Int)) = true := by rw [bne_iff_ne]; omega
            go_wp2_with fail
            go_quiet (fail)
            go_wp2
            go_returns
            exact ⟨by rw [HD.out hxy]; rfl, X.draws _⟩
        · obtain rfl : k = n := by omega
          go_wp2
          go_returns
          refine ⟨?_, X⟩
          have := HT.out
          rw [List.take_of_length_le (by rw [HN.out]; exact Nat.le_refl _), List.take_of_length_le (by rw [HM.out]; exact Nat.le_refl _)] at this
          subst this
          simp [sameNums]
  · have hf : sameNums a b = false := by unfold sameNums; rw [decide_eq_false_iff_not]; rintro rfl; omega
    have h3 : ((n : Int) == (m : Int)) = false := by rw [beq_eq_false_iff_ne]; omega
    have h4 : ((n : Int) != (m : Int)) = true := by rw [bne_iff_ne]; omega
    have HF := hid hf
    clear hf hn hm
    go_enter Tryz.func21, Tryz.ntmps21
    go_wp2
    go_returns
    exact ⟨by rw [HF.out]; rfl, ext_refl _⟩
theorem sameNums_self (a : List Nat) (A B : Option Addr) (n ca cb : Nat) (w : World) (hn : a.length = n) (ha : Rd w A (u64s a)) (hb : Rd w B (u64s a)) (hnl : n ≤ 140737488355328) :
    Calls Tryz.prog 21 #[.slice A n ca, .slice B n cb] w fun e w' => e = .returned (.bool true) ∧ Ext w w' := by
  have h := sameNums_any a a A B n n ca cb w hn hn ha hb hnl
  rw [show sameNums a a = true from decide_eq_true rfl] at h; exact h
end Go.Proofs.YtdmmodeplfmpnaaGreat
end
section
namespace Go.Proofs.YtdmmodeplfmpnaaGreat
open Go.RowKit Hy
set_option maxHeartbeats 400000 in
theorem sameTexts_any (a b : List (List UInt8)) (A B : Option Addr) (n m ca cb : Nat) (w : World) (hn : a.length = n) (hm : b.length = m) (ha : Rd w A (txs a)) (hb : Rd w B (txs b)) (hnl : n ≤ 140737488355328) :
    Calls Tryz.prog 22 #[.slice A n ca, .slice B m cb] w fun e w' => e = .returned (.bool (sameTexts a b)) ∧ Ext w w' := by
  by_cases hl : n = m
  · subst hl
    by_cases h0 : n = 0
    · have e1 := List.eq_nil_of_length_eq_zero (hn.trans h0)
      have e2 := List.eq_nil_of_length_eq_zero (hm.trans h0)
      subst e1 e2 h0
      go_enter Tryz.func22, Tryz.ntmps22
      go_wp2
      refine wp_loop_rounds 1 ?_
      rw [rounds_succ]
      go_wp2
      go_returns
      exact ⟨rfl, ext_refl _⟩
    · obtain ⟨b1, o1, rfl, l1, c1⟩ := ha.texts 0 (by omega)
      obtain ⟨b2, o2, rfl, l2, c2⟩ := hb.texts 0 (by omega)
      have C1 := hid c1
      have C2 := hid c2
      have HN := hid hn
      have HM := hid hm
      clear c1 c2 ha hb hn hm
      go_enter Tryz.func22, Tryz.ntmps22
      go_wp2
      go_loopw [5] (fun i wr => ∃ k : Nat, k ≤ n ∧ i = .int .i64 k ∧ a.take k = b.take k ∧ Ext w wr) (fun i _ => n - (intOf i).toNat)
      case atStart => exact ⟨0, Nat.zero_le _, rfl, rfl, ext_refl _⟩
      case round =>
        obtain ⟨k, hk, rfl, ht, X⟩ := hrel
        have HT := hid ht
        clear ht
        by_cases hlt : k < n
        · have d1 := (X.cell (p := ⟨b1, o1 + k, none⟩) l1).trans (C1.out k (by rw [HN.out]; exact hlt))
          have d2 := (X.cell (p := ⟨b2, o2 + k, none⟩) l2).trans (C2.out k (by rw [HM.out]; exact hlt))
          have HE := hid (take_step a b k (by rw [HN.out]; exact hlt) (by rw [HM.out]; exact hlt) HT.out)
          have HD := hid (show a[k]'(by rw [HN.out]; exact hlt) ≠ b[k]'(by rw [HM.out]; exact hlt) → sameTexts a b = false from fun h => by unfold sameTexts; rw [decide_eq_false_iff_not]; rintro rfl; exact h rfl)
          generalize a[k]'(by rw [HN.out]; exact hlt) = x at *
          generalize b[k]'(by rw [HM.out]; exact hlt) = y at *
          obtain ⟨S, hS⟩ : ∃ S : ByteArray, S = ⟨x.toArray⟩ := ⟨_, rfl⟩
          obtain ⟨T, hT⟩ : ∃ T : ByteArray, T = ⟨y.toArray⟩ := ⟨_, rfl⟩
          rw [← hS] at d1
          rw [← hT] at d2
          by_cases hxy : x = y
          · have e1 : (S.toList == T.toList) = true := by rw [hS, hT, ByteArray.toList_mk, ByteArray.toList_mk, hxy]; simp
            have HE2 := hid (HE.out hxy)
            clear HE HD hS hT hxy
            go_wp2_with fail
            go_quiet (fail)
            go_wp2
            go_roundw
            case rel => exact ⟨k + 1, by omega, by go_num, HE2.out, X.draws _⟩
            case measure => simp [intOf]; omega
          · have e1 : (S.toList == T.toList) = false := by rw [hS, hT, ByteArray.toList_mk, ByteArray.toList_mk, beq_eq_false_iff_ne]; exact hxy
            have HD2 := hid (HD.out hxy)
            clear HE HD hS hT hxy
            go_wp2_with fail
            go_quiet (fail)
            go_wp2
            go_returns
            exact ⟨by rw [HD2.out]; rfl, X.draws _⟩
        · obtain rfl : k = n := by omega
          go_wp2
          go_returns
          refine ⟨?_, X⟩
          have := HT.out
          rw [List.take_of_length_le (by rw [HN.out]; exact Nat.le_refl _), List.take_of_length_le (by rw [HM.out]; exact Nat.le_refl _)] at this
          subst this
          simp [sameTexts]
  · have hf : sameTexts a b = false := by unfold sameTexts; rw [decide_eq_false_iff_not]; rintro rfl; omega
    have h3 : ((n : Int) == (m : Int)) = false := by rw [beq_eq_false_iff_ne]; omega
    have h4 : ((n : Int) != (m : Int)) = true := by rw [bne_iff_ne]; omega
    have HF := hid hf
    clear hf hn hm
    go_enter Tryz.func22, Tryz.ntmps22
    go_wp2
    go_returns
    exact ⟨by rw [HF.out]; rfl, ext_refl _⟩
end Go.Proofs.YtdmmodeplfmpnaaGreat
end
