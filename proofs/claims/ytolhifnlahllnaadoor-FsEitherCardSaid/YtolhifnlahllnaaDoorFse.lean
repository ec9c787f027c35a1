/- Files: nodeOf, fewer: walks. -/
import Derived.Test.YtolhifnlahllnaaDoorFsc
namespace Hy.Fs
/-- the node of a name; -1: there is none -/
def nof : List Ent → ByteArray → Int
  | [], _ => -1
  | x :: r, s => if x.1 = s then x.2 else nof r s
theorem nof_here {l : List Ent} {s : ByteArray} {k : Nat} (h : k < l.length) (he : l[k].1 = s) : nof (l.drop k) s = l[k].2 := by
  rw [List.drop_eq_getElem_cons h]; simp only [nof]; rw [if_pos he]
theorem nof_next {l : List Ent} {s : ByteArray} {k : Nat} (h : k < l.length) (he : l[k].1 ≠ s) : nof (l.drop k) s = nof (l.drop (k + 1)) s := by
  rw [List.drop_eq_getElem_cons h]; simp only [nof]; rw [if_neg he]
/-- how many nodes ahead of one are named -/
def few (a b : List Ent) (n : Nat) : Nat := ((List.range n).filter fun (i : Nat) => nmd a (i : Int) || nmd b (i : Int)).length
theorem few_succ (a b : List Ent) (n : Nat) : few a b (n + 1) = few a b n + (if (nmd a (n : Int) || nmd b (n : Int)) = true then 1 else 0) := by
  unfold few
  rw [List.range_succ, List.filter_append, List.length_append]
  congr 1
  cases h : (nmd a (n : Int) || nmd b (n : Int)) <;> simp [List.filter, h]
theorem few_le (a b : List Ent) (n : Nat) : few a b n ≤ n := by
  unfold few
  exact Nat.le_trans (List.length_filter_le _ _) (by simp)
end Hy.Fs
namespace Go.Proofs.YtolhifnlahllnaaDoor
open Go.RowKit Hy
set_option maxHeartbeats 800000 in
theorem nodeOf_any (l : List Ent) (s : ByteArray) (A : Option Addr) (n cap : Nat) (w : World) (hn : l.length = n) (hr : Rd w A (ens l)) (hnl : n ≤ 140737488355328) :
    Calls Tryd.prog 43 #[.slice A n cap, .string s] w fun e w' => e = .returned (.int .i64 (Fs.nof l s)) ∧ w = w' := by
  have HN := hid hn
  have HA := hid hr
  obtain ⟨R, hR⟩ : ∃ R, R = Fs.nof l s := ⟨_, rfl⟩
  rw [← hR]
  have HR := hid (show R = Fs.nof (l.drop 0) s from hR)
  have hnI : (n : Int) ≤ 140737488355328 := by omega
  clear hn hr hnl hR
  go_enter Tryd.func43, Tryd.ntmps43
  go_wp2
  go_loop [5] (fun c => ∃ k : Nat, k ≤ n ∧ c = .int .i64 k ∧ Hid (R = Fs.nof (l.drop k) s)) (fun c => n - (intOf c).toNat)
  case atStart => exact ⟨0, Nat.zero_le _, rfl, HR⟩
  case round =>
    obtain ⟨k, hk, rfl, HI⟩ := hrel
    by_cases hlt : k < n
    · have hka : k < l.length := by rw [HN.out]; exact hlt
      obtain ⟨b1, o1, e1, l1, c1⟩ := HA.out.ents k hka
      subst e1
      have d0 := (c1 k hka).1
      have d1 := (c1 k hka).2
      have hkI : (k : Int) < (n : Int) := by omega
      by_cases he : l[k].1 = s
      · have HV := hid (show R = l[k].2 by rw [HI.out, Fs.nof_here hka he])
        rw [he] at d0
        generalize l[k].2 = y at *
        clear c1 he hka
        go_wp2
        go_returns
        exact ⟨by rw [HV.out]; rfl, rfl⟩
      · have HI2 := hid (show R = _ by rw [HI.out, Fs.nof_next hka he])
        have hne : ¬ (l[k].1).toList = s.toList := fun h => he (by
          rw [ByteArray.toList_eq, ByteArray.toList_eq] at h
          exact ByteArray.ext (Array.ext' h))
        have hnb : ((l[k].1).toList == s.toList) = false := beq_eq_false_iff_ne.2 hne
        generalize l[k] = x at *
        obtain ⟨t, y⟩ := x
        simp only at d0 d1 hne hnb
        clear c1 he hka
        go_wp2
        go_round
        case rel => exact ⟨k + 1, by omega, by go_num, HI2⟩
        case measure => simp [intOf]; omega
    · obtain rfl : n = k := by omega
      have HV := hid (show R = -1 by rw [HI.out, List.drop_of_length_le (by rw [HN.out]; exact Nat.le_refl _)]; rfl)
      clear hlt
      go_wp2
      go_returns
      exact ⟨by rw [HV.out]; rfl, rfl⟩
set_option maxHeartbeats 800000 in
theorem fewer_any (a b : List Ent) (N A B : Option Addr) (nn nc n ca m cb k : Nat) (w : World) (hn : a.length = n) (ha : Rd w A (ens a)) (hnl : n ≤ 140737488355328) (hm : b.length = m) (hb : Rd w B (ens b)) (hml : m ≤ 140737488355328) (hk : k ≤ 140737488355328) :
    Calls Tryd.prog 117 #[.agg #[.slice N nn nc, .slice A n ca, .slice B m cb], .int .i64 k] w fun e w' => e = .returned (.int .i64 (Fs.few a b k : Nat)) ∧ Ext w w' := by
  have HIN := hid (fun (i : Nat) wx (hx : Ext w wx) => isNamed_any a b i A B n m ca cb wx hn (ha.keep hx) hnl hm (hb.keep hx) hml)
  have HS := hid (fun i => Fs.few_succ a b i)
  have HLE := hid (fun i => Fs.few_le a b i)
  have hkI : (k : Int) ≤ 140737488355328 := by omega
  clear hn ha hnl hm hb hml hk
  go_enter Tryd.func117, Tryd.ntmps117
  go_upto_region 1 with fail
  refine wp_gen (fun w' => Ext w w' ∧ Blk w' w.heap.size 25 #[.slice N nn nc, .slice A n ca, .slice B m cb]) ⟨(ext_refl _).new _, Blk.new _ _ _⟩ ?_
  rintro wz ⟨B0, B1⟩
  have HB := hid B0
  have a1 := B1.cell 1
  have a2 := B1.cell 2
  clear B0 B1
  go_wp2
  go_loop [5, 6] (fun v c => ∃ i t : Nat, i ≤ k ∧ t ≤ i ∧ c = .int .i64 i ∧ v = .int .i64 t ∧ Hid (t = Fs.few a b i)) (fun _ c => k - (intOf c).toNat)
  case atStart => exact ⟨0, 0, Nat.zero_le _, Nat.le_refl _, rfl, rfl, hid rfl⟩
  case round =>
    obtain ⟨i, t, hi, hti, rfl, rfl, HV⟩ := hrel
    by_cases hlt : i < k
    · have hiI : (i : Int) < (k : Int) := by omega
      have htI : (t : Int) ≤ (i : Int) := by omega
      have HINK := hid (HIN.out i _ HB.out)
      have hs := HS.out i
      cases hb : (Fs.nmd a i || Fs.nmd b i) with
      | false =>
        rw [hb] at hs HINK
        have HV2 := hid (show t = Fs.few a b (i + 1) by rw [hs, HV.out]; rfl)
        clear hb hs
        go_wp2_with (go_at_call 52; refine HINK.out.mono ?_; rintro e w4 ⟨rfl, rfl⟩)
        go_round
        case rel => exact ⟨i + 1, t, by omega, by omega, by go_num, rfl, HV2⟩
        case measure => simp [intOf]; omega
      | true =>
        rw [hb] at hs HINK
        have HV2 := hid (show t + 1 = Fs.few a b (i + 1) by rw [hs, HV.out]; rfl)
        clear hb hs
        go_wp2_with (go_at_call 52; refine HINK.out.mono ?_; rintro e w4 ⟨rfl, rfl⟩)
        go_round
        case rel => exact ⟨i + 1, t + 1, by omega, by omega, by go_num, by go_num, HV2⟩
        case measure => simp [intOf]; omega
    · obtain rfl : k = i := by omega
      clear hlt
      go_wp2
      go_returns
      exact ⟨by rw [← HV.out]; rfl, HB.out⟩
end Go.Proofs.YtolhifnlahllnaaDoor
