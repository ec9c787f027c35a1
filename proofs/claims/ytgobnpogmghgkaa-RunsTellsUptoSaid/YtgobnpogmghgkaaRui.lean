/- Runs: rows (an iterator) and Raw: walks. -/
import Derived.Test.YtgobnpogmghgkaaRug
import Derived.RangeFuncNested
import Derived.RangeFuncBound
import Derived.RangeFuncCalls
import Derived.RangeFuncLeaves
import Derived.RangeFuncBox
import Derived.Shelf.Abstract
import Derived.Shelf.RegionOpen
import Derived.OwnWalkIn
import Derived.TacticsInMore
import Derived.LoopNIn
import Derived.LoopIn
import Derived.Maps.AppendAt
import Derived.Sort.QuietIn
namespace Hy.Runs
theorem lead_lt (x : Nat) (l : List Nat) (j : Nat) (h : j < lead x l) : l[j]? = some x := by
  induction l generalizing j with
  | nil => cases h
  | cons y l ih =>
    rw [lead] at h
    split at h
    · rename_i e
      cases j with
      | zero => simp [e]
      | succ j => simpa using ih j (by omega)
    · omega
theorem lead_at (x : Nat) (l : List Nat) : l[lead x l]? ≠ some x := by
  induction l with
  | nil => simp
  | cons y l ih =>
    rw [lead]
    split
    · simpa using ih
    · rename_i e; simpa using e
end Hy.Runs
namespace Go.Proofs.Ytgobnpogmghgkaa
open Go.RowKit Hy Go.Shelf
attribute [local go_sem] Oper.semAt_some
def encR (x : Runs.Run) : Array Value := #[.agg #[.int .u64 (x.1 : Int), .int .i64 x.2]]
set_option maxRecDepth 100000 in
set_option maxHeartbeats 2000000 in
theorem rows1_in (n : Nat) (hn : 1 ≤ n) (lp Bn n₀ m cap B : Nat) (A : Option Addr) (L : List Nat) (hm : L.length = m) (hmI : (m : Int) ≤ 1000000000000)
    (J Jx : List Runs.Run → World → Prop) (hJ : AbidesFrom B J)
    (hY : ∀ pre x W, J pre W → pre.length < (Runs.runs L).length → YieldAt Fence.wide (n - 1) Try.prog lp (encR x) W fun e W' =>
      (e = .returned (.bool true) ∧ J (pre ++ [x]) W' ∧ (Below n₀ W W' ∧ ∀ v, Boxed W Bn 36 v → Boxed W' Bn 36 v)) ∨ (e = .returned (.bool false) ∧ Jx (pre ++ [x]) W'))
    (W : World) (hBn : Boxed W Bn 36 (.slice A m cap)) (hA : 0 < m → ∃ b o, A = some ⟨b, o, none⟩ ∧ b < n₀ ∧ ∀ j (hj : j < L.length), W.cell? ⟨b, o + j, none⟩ = some (.int .u64 ((L[j] : Nat) : Int))) (h0 : J [] W) :
    CallsIn Fence.wide n Try.prog 57 #[.func (.yield lp) #[] #[], .pointer (some ⟨Bn, 0, none⟩)] W fun e W' => (∃ v, e = .returned v) ∧
      ((∃ ys, ys = Runs.runs L ∧ J ys W') ∨ (∃ pre, pre <+: Runs.runs L ∧ Jx pre W')) := by
  have HM := hid hm
  have HA := hid hA
  clear hm hA
  refine callsIn_of_wp Try.func57 rfl trivial ?_ rfl
  simp only [Try.ntmps57, List.size_toArray, List.length_cons, List.length_nil, Nat.reduceAdd, Nat.reduceSub, Array.replicate_succ, Array.replicate_zero, List.push_toArray, List.append_toArray, List.nil_append, List.cons_append]
  gi_wp2
  gi_loopw [3] (fun i wr => ∃ k : Nat, k ≤ m ∧ i = .int .i64 k ∧ ∃ pre, Runs.runs L = pre ++ Runs.runs (L.drop k) ∧ J pre wr ∧ Below n₀ W wr ∧ Boxed wr Bn 36 (.slice A m cap))
    (fun i _ => m - (intOf i).toNat)
  case atStart => exact ⟨0, Nat.zero_le _, rfl, [], rfl, h0, Below.refl _ _, hBn⟩
  case round =>
    obtain ⟨k, hk, rfl, pre, hpre, hJs, hnx, hbx⟩ := hrel
    have HP := hid hpre
    have HX := hid hbx
    have cB := hbx.cell
    clear hpre hbx
    by_cases hlt : k < m
    · obtain ⟨b, o, rfl, hb, hc⟩ := HA.out (by omega)
      have HC := hid hc
      clear hc
      have hka : k < L.length := by rw [HM.out]; exact hlt
      have cK := (hnx.cell (p := ⟨b, o + k, none⟩) hb).trans (HC.out k hka)
      have HR := hid (show Runs.runs (L.drop k) = (L[k], (Runs.lead L[k] (L.drop (k + 1)) : Int) + 1) :: Runs.runs ((L.drop (k + 1)).drop (Runs.lead L[k] (L.drop (k + 1)))) by rw [List.drop_eq_getElem_cons hka, Runs.runs_front])
      have HLE := hid (Runs.lead_le L[k] (L.drop (k + 1)))
      have HLA := hid (Runs.lead_at L[k] (L.drop (k + 1)))
      have HLT := hid (Runs.lead_lt L[k] (L.drop (k + 1)))
      obtain ⟨x, hx⟩ : ∃ x, x = L[k] := ⟨_, rfl⟩
      rw [← hx] at cK HR HLE HLA HLT
      obtain ⟨ld, hld⟩ : ∃ ld, ld = Runs.lead x (L.drop (k + 1)) := ⟨_, rfl⟩
      rw [← hld] at HR HLE HLA HLT
      clear hx hld
      have HK := hid (show W.cell? ⟨b, o + k, none⟩ = some (.int .u64 (x : Int)) from (hnx.cell (p := ⟨b, o + k, none⟩) hb).symm.trans cK)
      have hlm : k + 1 + ld ≤ m := by have := HLE.out; rw [List.length_drop, HM.out] at this; omega
      gi_wp2
      gi_loopw [4] (fun v wi => ∃ j : Nat, j ≤ ld ∧ v = .int .i64 ((k + 1 + j : Nat) : Int) ∧ J pre wi ∧ Below n₀ W wi ∧ Boxed wi Bn 36 (.slice (some ⟨b, o, none⟩) m cap)) (fun v _ => m - (intOf v).toNat)
      case atStart => exact ⟨0, Nat.zero_le _, by go_num, hJs, hnx, HX.out⟩
      case round =>
        clear cB cK hnx HX hJs
        obtain ⟨j, hj, rfl, hJs, hnx, hbx⟩ := hrel
        have HX := hid hbx
        have cB := hbx.cell
        clear hbx
        have cK := (hnx.cell (p := ⟨b, o + k, none⟩) hb).trans HK.out
        have HJ := hid (fun q => hJ pre _ (wr.drewN q) none hJs ⟨rfl, rfl, rfl, Nat.le_refl _, fun _ _ _ => rfl⟩ (fun r e => by cases e))
        clear hJs
        obtain ⟨t, ht⟩ : ∃ t, t = k + 1 + j := ⟨_, rfl⟩
        rw [← ht]
        have htm : t ≤ m := by omega
        have HT := hid ht
        by_cases hjl : j < ld
        · have htl : t < m := by omega
          have hta : t < L.length := by rw [HM.out]; exact htl
          have cT := (hnx.cell (p := ⟨b, o + t, none⟩) hb).trans (HC.out t hta)
          have hLx : L[t] = x := by
            have := HLT.out j hjl
            rw [List.getElem?_drop, ← ht, List.getElem?_eq_getElem hta] at this
            exact Option.some.inj this
          rw [hLx] at cT
          clear ht hLx
          gi_wp2_with fail
          gi_quiet (fail)
          gi_wp2
          go_roundw
          case rel => exact ⟨j + 1, by omega, by rw [HT.out]; go_num, HJ.out _, below_drewN hnx _, HX.out⟩
          case measure => rw [HT.out] at htl ⊢; simp [intOf]; omega
        · obtain rfl : j = ld := by omega
          obtain ⟨Z, hZ⟩ : ∃ Z, Z = ((j : Int) + 1) := ⟨_, rfl⟩
          have hTk : (t : Int) - (k : Int) = Z := by omega
          have hZ1 : 1 ≤ Z := by omega
          have hZ2 : Z ≤ 1000000000000 := by omega
          have hpl : pre.length < (Runs.runs L).length := by rw [HP.out, HR.out]; simp
          have HR2 := hid (show Runs.runs L = (pre ++ [(x, Z)]) ++ Runs.runs (L.drop t) by rw [HP.out, HR.out, List.drop_drop, hZ, ht]; simp)
          have HZ := hid hZ
          have HYA := hid (fun q => hY pre (x, Z) (wr.drewN q) (HJ.out q) hpl)
          clear hY hpl hZ
          by_cases htm2 : t < m
          · have hta : t < L.length := by rw [HM.out]; exact htm2
            have cT := (hnx.cell (p := ⟨b, o + t, none⟩) hb).trans (HC.out t hta)
            have hLx : L[t] ≠ x := by
              intro e
              refine HLA.out ?_
              rw [List.getElem?_drop, ← ht, List.getElem?_eq_getElem hta, e]
            obtain ⟨y, hy0⟩ : ∃ y, y = L[t] := ⟨_, rfl⟩
            rw [← hy0] at cT hLx
            have e1 : ((y : Int) == (x : Int)) = false := by rw [beq_eq_false_iff_ne]; omega
            clear ht hy0 hLx
            gi_wp2_with fail
            gi_quiet (fail)
            obtain ⟨fn, tmps, assign, body, hy, hyR⟩ := HYA.out nq
            have HYR := hid hyR
            simp only [encR] at hy
            clear hyR
            gi_wp2
            refine HYR.out.mono ?_
            rintro e W3 (⟨rfl, hJ3, hk3, hb3⟩ | ⟨rfl, hJx3⟩)
            · gi_wp2
              go_roundw
              case rel => exact ⟨t, htm, rfl, _, HR2.out, hJ3, (below_drewN hnx _).trans hk3, hb3 _ HX.out⟩
              case measure => simp [intOf]; omega
            · gi_wp2
              refine bodyPost_ret (results_none rfl _ _ _) rfl ?_
              exact ⟨⟨_, rfl⟩, .inr ⟨_, ⟨_, HR2.out.symm⟩, hJx3⟩⟩
          · clear ht
            gi_wp2_with fail
            gi_quiet (fail)
            obtain ⟨fn, tmps, assign, body, hy, hyR⟩ := HYA.out nq
            have HYR := hid hyR
            simp only [encR] at hy
            clear hyR
            gi_wp2
            refine HYR.out.mono ?_
            rintro e W3 (⟨rfl, hJ3, hk3, hb3⟩ | ⟨rfl, hJx3⟩)
            · gi_wp2
              go_roundw
              case rel => exact ⟨t, htm, rfl, _, HR2.out, hJ3, (below_drewN hnx _).trans hk3, hb3 _ HX.out⟩
              case measure => simp [intOf]; omega
            · gi_wp2
              refine bodyPost_ret (results_none rfl _ _ _) rfl ?_
              exact ⟨⟨_, rfl⟩, .inr ⟨_, ⟨_, HR2.out.symm⟩, hJx3⟩⟩
    · obtain rfl : k = m := by omega
      gi_wp2
      go_end0
      have hd : L.drop k = [] := List.drop_eq_nil_of_le (by rw [HM.out]; exact Nat.le_refl _)
      exact ⟨⟨_, rfl⟩, .inl ⟨pre, by rw [HP.out, hd]; simp [Runs.runs], hJs⟩⟩
end Go.Proofs.Ytgobnpogmghgkaa
