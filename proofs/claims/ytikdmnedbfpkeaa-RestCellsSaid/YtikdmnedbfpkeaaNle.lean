/- At; Split: walks. -/
import Derived.Test.YtikdmnedbfpkeaaNld
namespace Hy.Cel
def atE (kind : Int) (m : List Bool) (l : List Cel) (i : Int) : Nat := if jchk kind m l ≠ 0 then jchk kind m l else if i < 0 ∨ (m.length : Int) ≤ i then 3 else 0
def atC (kind : Int) (m : List Bool) (l : List Cel) (i : Int) : Cel := if atE kind m l i = 0 then jat m l i.toNat else O
end Hy.Cel
namespace Go.Proofs.Ytikdmnedbfpkeaa
open Go.RowKit Hy
set_option maxHeartbeats 1000000 in
theorem at_bad (kind : Int) (A B : Option Addr) (n k ca cb : Nat) (c : Nat) (i : Int) (w : World) (e1 : ((c : Int) == 0) = false) (e2 : ((c : Int) != 0) = true) (HC : Hid (∀ w', Ext w w' → Calls Try.prog 43 #[.int .i64 kind, .slice A k ca, .slice B n cb] w' fun e w'' => e = .returned (.int .i64 (c : Nat)) ∧ Ext w' w'')) :
    Calls Try.prog 30 #[.int .i64 kind, .slice A k ca, .slice B n cb, .int .i64 i] w fun e w' => e = .returned (.tuple #[.agg #[.int .i64 0, .int .u64 0, .string ⟨#[]⟩], .int .i64 (c : Nat)]) ∧ Ext w w' := by
  have HX0 := hid (Ext.new (ext_refl w) (.cells #[.int .i64 0, .int .u64 0, .string ⟨#[]⟩] 25))
  have HB0 := hid (Blk.new w 25 #[.int .i64 0, .int .u64 0, .string ⟨#[]⟩])
  go_enter Try.func30, Try.ntmps30
  go_wp2_with (first | (go_at_call 43; refine Calls.mono (HC.out _ HX0.out) ?_; rintro e w1 ⟨rfl, hx⟩; replace HB0 := hid (HB0.out.keep hx); replace HX0 := hid (HX0.out.then hx); clear hx) | (with_reducible (show wpList _ _ _ (⟨none, .store 25 (.tmp 8) (.tmp 38), _, _, _, _⟩ :: _) _ _); go_loud (refine wpList_store_blk rfl 25 (.tmp 8) (.tmp 38) rfl w.heap.size #[.int .i64 0, .int .u64 0, .string ⟨#[]⟩] rfl rfl 25 _ HB0.out (by kernel_rfl) rfl (by simp [Value.oneCell']) w.heap.size (Nat.le_refl _) ?_; intro w6 hB6 hF6 hL6; have HB6 := hid hB6; have X6 : Hid (Ext w w6) := hid (HX0.out.trans hL6); clear hB6 hF6 hL6)))
  refine bodyPost_ret (results_blk2 rfl _ _ w.heap.size 25 _ _ rfl HB6.out Try.underlying25 rfl (by kernel_rfl)) rfl ?_
  exact ⟨rfl, X6.out⟩
set_option maxHeartbeats 1000000 in
theorem at_low (kind : Int) (A B : Option Addr) (n k ca cb : Nat) (i : Int) (w : World) (h : i < 0) (HC : Hid (∀ w', Ext w w' → Calls Try.prog 43 #[.int .i64 kind, .slice A k ca, .slice B n cb] w' fun e w'' => e = .returned (.int .i64 0) ∧ Ext w' w'')) :
    Calls Try.prog 30 #[.int .i64 kind, .slice A k ca, .slice B n cb, .int .i64 i] w fun e w' => e = .returned (.tuple #[.agg #[.int .i64 0, .int .u64 0, .string ⟨#[]⟩], .int .i64 3]) ∧ Ext w w' := by
  have HX0 := hid (Ext.new (ext_refl w) (.cells #[.int .i64 0, .int .u64 0, .string ⟨#[]⟩] 25))
  have HB0 := hid (Blk.new w 25 #[.int .i64 0, .int .u64 0, .string ⟨#[]⟩])
  go_enter Try.func30, Try.ntmps30
  go_wp2_with (first | (go_at_call 43; refine Calls.mono (HC.out _ HX0.out) ?_; rintro e w1 ⟨rfl, hx⟩; replace HB0 := hid (HB0.out.keep hx); replace HX0 := hid (HX0.out.then hx); clear hx) | (with_reducible (show wpList _ _ _ (⟨none, .store 25 (.tmp 8) (.tmp 38), _, _, _, _⟩ :: _) _ _); go_loud (refine wpList_store_blk rfl 25 (.tmp 8) (.tmp 38) rfl w.heap.size #[.int .i64 0, .int .u64 0, .string ⟨#[]⟩] rfl rfl 25 _ HB0.out (by kernel_rfl) rfl (by simp [Value.oneCell']) w.heap.size (Nat.le_refl _) ?_; intro w6 hB6 hF6 hL6; have HB6 := hid hB6; have X6 : Hid (Ext w w6) := hid (HX0.out.trans hL6); clear hB6 hF6 hL6)))
  refine bodyPost_ret (results_blk2 rfl _ _ w.heap.size 25 _ _ rfl HB6.out Try.underlying25 rfl (by kernel_rfl)) rfl ?_
  exact ⟨rfl, X6.out⟩
set_option maxHeartbeats 1000000 in
theorem at_high (kind : Int) (A B : Option Addr) (n k ca cb : Nat) (i : Int) (w : World) (h0 : 0 ≤ i) (h : (k : Int) ≤ i) (HC : Hid (∀ w', Ext w w' → Calls Try.prog 43 #[.int .i64 kind, .slice A k ca, .slice B n cb] w' fun e w'' => e = .returned (.int .i64 0) ∧ Ext w' w'')) :
    Calls Try.prog 30 #[.int .i64 kind, .slice A k ca, .slice B n cb, .int .i64 i] w fun e w' => e = .returned (.tuple #[.agg #[.int .i64 0, .int .u64 0, .string ⟨#[]⟩], .int .i64 3]) ∧ Ext w w' := by
  have HX0 := hid (Ext.new (ext_refl w) (.cells #[.int .i64 0, .int .u64 0, .string ⟨#[]⟩] 25))
  have HB0 := hid (Blk.new w 25 #[.int .i64 0, .int .u64 0, .string ⟨#[]⟩])
  go_enter Try.func30, Try.ntmps30
  go_wp2_with (first | (go_at_call 43; refine Calls.mono (HC.out _ HX0.out) ?_; rintro e w1 ⟨rfl, hx⟩; replace HB0 := hid (HB0.out.keep hx); replace HX0 := hid (HX0.out.then hx); clear hx) | (with_reducible (show wpList _ _ _ (⟨none, .store 25 (.tmp 8) (.tmp 38), _, _, _, _⟩ :: _) _ _); go_loud (refine wpList_store_blk rfl 25 (.tmp 8) (.tmp 38) rfl w.heap.size #[.int .i64 0, .int .u64 0, .string ⟨#[]⟩] rfl rfl 25 _ HB0.out (by kernel_rfl) rfl (by simp [Value.oneCell']) w.heap.size (Nat.le_refl _) ?_; intro w6 hB6 hF6 hL6; have HB6 := hid hB6; have X6 : Hid (Ext w w6) := hid (HX0.out.trans hL6); clear hB6 hF6 hL6)))
  refine bodyPost_ret (results_blk2 rfl _ _ w.heap.size 25 _ _ rfl HB6.out Try.underlying25 rfl (by kernel_rfl)) rfl ?_
  exact ⟨rfl, X6.out⟩
set_option maxHeartbeats 1000000 in
theorem at_none (kind : Int) (A B : Option Addr) (n k ca cb : Nat) (i : Nat) (w : World) (h1 : (i : Int) < (k : Int)) (b o : Nat) (hA : A = some ⟨b, o, none⟩) (hb : b < w.heap.size) (hc : w.cell? ⟨b, o + i, none⟩ = some (.bool false)) (HC : Hid (∀ w', Ext w w' → Calls Try.prog 43 #[.int .i64 kind, .slice A k ca, .slice B n cb] w' fun e w'' => e = .returned (.int .i64 0) ∧ Ext w' w'')) :
    Calls Try.prog 30 #[.int .i64 kind, .slice A k ca, .slice B n cb, .int .i64 i] w fun e w' => e = .returned (.tuple #[.agg #[.int .i64 0, .int .u64 0, .string ⟨#[]⟩], .int .i64 0]) ∧ Ext w w' := by
  have HX0 := hid (Ext.new (ext_refl w) (.cells #[.int .i64 0, .int .u64 0, .string ⟨#[]⟩] 25))
  have HB0 := hid (Blk.new w 25 #[.int .i64 0, .int .u64 0, .string ⟨#[]⟩])
  subst hA
  have h0 : (0 : Int) ≤ (i : Int) := by omega
  have HCC := hid hc
  have HBB := hid hb
  clear hc hb
  go_enter Try.func30, Try.ntmps30
  go_wp2_with fail
  refine Calls.mono (HC.out _ HX0.out) ?_
  rintro e w1 ⟨rfl, hx⟩
  replace HB0 := hid (HB0.out.keep hx)
  replace HX0 := hid (HX0.out.then hx)
  clear hx
  have d0 := ext_cell HX0.out HCC.out
  go_wp2_with (with_reducible (show wpList _ _ _ (⟨none, .store 25 (.tmp 8) (.tmp 38), _, _, _, _⟩ :: _) _ _); go_loud (refine wpList_store_blk rfl 25 (.tmp 8) (.tmp 38) rfl w.heap.size #[.int .i64 0, .int .u64 0, .string ⟨#[]⟩] rfl rfl 25 _ HB0.out (by kernel_rfl) rfl (by simp [Value.oneCell']) w.heap.size (Nat.le_refl _) ?_; intro w6 hB6 hF6 hL6; have HB6 := hid hB6; have X6 : Hid (Ext w w6) := hid (HX0.out.trans hL6); clear hB6 hF6 hL6))
  refine bodyPost_ret (results_blk2 rfl _ _ w.heap.size 25 _ _ rfl HB6.out Try.underlying25 rfl (by kernel_rfl)) rfl ?_
  exact ⟨rfl, X6.out⟩
set_option maxHeartbeats 1000000 in
theorem at_some (kind : Int) (A B : Option Addr) (n k ca cb : Nat) (i p : Nat) (w : World) (h1 : (i : Int) < (k : Int)) (b o : Nat) (hA : A = some ⟨b, o, none⟩) (hc : w.cell? ⟨b, o + i, none⟩ = some (.bool true)) (b2 o2 : Nat) (hB : B = some ⟨b2, o2, none⟩) (hp : (p : Int) < (n : Int)) (ck : Int) (cn : Nat) (cs : ByteArray)
    (c0 : w.cell? ⟨b2, o2 + p * 3, none⟩ = some (.int .i64 ck)) (c1 : w.cell? ⟨b2, o2 + p * 3 + 1, none⟩ = some (.int .u64 (cn : Nat))) (c2 : w.cell? ⟨b2, o2 + p * 3 + 2, none⟩ = some (.string cs))
    (HR : Hid (∀ w', Ext w w' → Calls Try.prog 44 #[.slice A k ca, .int .i64 i] w' fun e w'' => e = .returned (.tuple #[.int .i64 (p : Nat), .int .i64 0]) ∧ Ext w' w''))
    (HC : Hid (∀ w', Ext w w' → Calls Try.prog 43 #[.int .i64 kind, .slice A k ca, .slice B n cb] w' fun e w'' => e = .returned (.int .i64 0) ∧ Ext w' w'')) :
    Calls Try.prog 30 #[.int .i64 kind, .slice A k ca, .slice B n cb, .int .i64 i] w fun e w' => e = .returned (.tuple #[celV (ck, cn, cs), .int .i64 0]) ∧ Ext w w' := by
  have HX0 := hid (Ext.new (ext_refl w) (.cells #[.int .i64 0, .int .u64 0, .string ⟨#[]⟩] 25))
  have HB0 := hid (Blk.new w 25 #[.int .i64 0, .int .u64 0, .string ⟨#[]⟩])
  subst hA hB
  have h0 : (0 : Int) ≤ (i : Int) := by omega
  have HCC := hid hc
  have HC0 := hid c0
  have HC1 := hid c1
  have HC2 := hid c2
  clear hc c0 c1 c2
  go_enter Try.func30, Try.ntmps30
  go_wp2_with fail
  refine Calls.mono (HC.out _ HX0.out) ?_
  rintro e w1 ⟨rfl, hx⟩
  replace HB0 := hid (HB0.out.keep hx)
  replace HX0 := hid (HX0.out.then hx)
  clear hx
  have d0 := ext_cell HX0.out HCC.out
  go_wp2_with fail
  refine Calls.mono (HR.out _ HX0.out) ?_
  rintro e w2 ⟨rfl, hx⟩
  replace HB0 := hid (HB0.out.keep hx)
  replace HX0 := hid (HX0.out.then hx)
  clear hx d0
  have d0 := ext_cell HX0.out HC0.out
  have d1 := ext_cell HX0.out HC1.out
  have d2 := ext_cell HX0.out HC2.out
  go_wp2_with (with_reducible (show wpList _ _ _ (⟨none, .store 25 (.tmp 8) (.tmp 49), _, _, _, _⟩ :: _) _ _); go_loud (refine wpList_store_blk rfl 25 (.tmp 8) (.tmp 49) rfl w.heap.size #[.int .i64 ck, .int .u64 (cn : Nat), .string cs] rfl rfl 25 _ HB0.out (by kernel_rfl) rfl (by simp [Value.oneCell']) w.heap.size (Nat.le_refl _) ?_; intro w6 hB6 hF6 hL6; have HB6 := hid hB6; have X6 : Hid (Ext w w6) := hid (HX0.out.trans hL6); clear hB6 hF6 hL6))
  refine bodyPost_ret (results_blk2 rfl _ _ w.heap.size 25 _ _ rfl HB6.out Try.underlying25 rfl (by kernel_rfl)) rfl ?_
  exact ⟨rfl, X6.out⟩
theorem at_any (kind : Int) (m : List Bool) (l : List Cel) (i : Int) (A B : Option Addr) (n k ca cb : Nat) (w : World) (hm : m.length = k) (hrm : Rd w A (bls m)) (hn : l.length = n) (hr : Rd w B (cls l)) (hcap : k ≤ ca) (hkl : k ≤ 140737488355328) (hnl : n ≤ 140737488355328) :
    Calls Try.prog 30 #[.int .i64 kind, .slice A k ca, .slice B n cb, .int .i64 i] w fun e w' => e = .returned (.tuple #[celV (Cel.atC kind m l i), .int .i64 (Cel.atE kind m l i : Nat)]) ∧ Ext w w' := by
  have HC := fun w' (hx : Ext w w') => jcheck_any kind m l A B n k ca cb w' hm (hrm.keep hx) hn (hr.keep hx) hkl hnl
  by_cases hj : Cel.jchk kind m l = 0
  · obtain ⟨j1, j2, j3, j4⟩ := Cel.jchk_ok hj
    rw [hj] at HC
    by_cases h0 : i < 0
    · have e : Cel.atE kind m l i = 3 := by unfold Cel.atE; rw [if_neg (by simp [hj]), if_pos (.inl h0)]
      have e2 : Cel.atC kind m l i = Cel.O := by unfold Cel.atC; rw [if_neg (by rw [e]; decide)]
      rw [e, e2]
      exact at_low kind A B n k ca cb i w h0 (hid HC)
    · by_cases h1 : (k : Int) ≤ i
      · have e : Cel.atE kind m l i = 3 := by unfold Cel.atE; rw [if_neg (by simp [hj]), if_pos (.inr (by rw [hm]; exact h1))]
        have e2 : Cel.atC kind m l i = Cel.O := by unfold Cel.atC; rw [if_neg (by rw [e]; decide)]
        rw [e, e2]
        exact at_high kind A B n k ca cb i w (by omega) h1 (hid HC)
      · obtain ⟨j, rfl⟩ : ∃ j : Nat, i = j := ⟨i.toNat, by omega⟩
        have hjk : j < m.length := by rw [hm]; omega
        have e : Cel.atE kind m l j = 0 := by unfold Cel.atE; rw [if_neg (by simp [hj]), if_neg (by rw [hm]; omega)]
        have e2 : Cel.atC kind m l j = Cel.jat m l j := by unfold Cel.atC; rw [if_pos e]; rfl
        rw [e, e2]
        obtain ⟨b, o, hA, hb, hc⟩ := hrm.bool (by omega)
        by_cases hq : m[j] = true
        · have hpn := Cel.count_at m j hjk hq
          rw [j4] at hpn
          rw [Cel.jat_yes m l j hjk hq hpn]
          obtain ⟨b2, o2, hB, hb2, hc2⟩ := hr.cels _ hpn
          have hcell := hc2 _ hpn
          have := hc j hjk
          rw [hq] at this
          exact at_some kind A B n k ca cb j _ w (by omega) b o hA this b2 o2 hB (by rw [hn] at hpn; omega) _ _ _ hcell.1 hcell.2.1 hcell.2.2
            (hid fun w' hx => rank_any m j A k ca w' hm (hrm.keep hx) hcap (by omega) (by omega)) (hid HC)
        · have hq' : m[j] = false := by simpa using hq
          rw [Cel.jat_no m l j hjk hq']
          have := hc j hjk
          rw [hq'] at this
          exact at_none kind A B n k ca cb j w (by omega) b o hA hb this (hid HC)
  · have e : Cel.atE kind m l i = Cel.jchk kind m l := by unfold Cel.atE; rw [if_pos hj]
    have e2 : Cel.atC kind m l i = Cel.O := by unfold Cel.atC; rw [if_neg (by rw [e]; exact hj)]
    rw [e, e2]
    exact at_bad kind A B n k ca cb _ i w (by rw [beq_eq_false_iff_ne]; omega) (by rw [bne_iff_ne]; omega) (hid HC)
end Go.Proofs.Ytikdmnedbfpkeaa
