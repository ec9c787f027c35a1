/- Files: named, isNamed: walks. -/
import Derived.Test.YtolhifnlahllnaaDoorFsp
namespace Hy
open Go
abbrev entV (x : Ent) : Value := .agg #[.string x.1, .int .i64 x.2]
end Hy
namespace Go.Proofs.YtolhifnlahllnaaDoor
open Go.RowKit Hy
set_option maxHeartbeats 800000 in
theorem isNamed_any (a b : List Ent) (i : Int) (A B : Option Addr) (n m ca cb : Nat) (w : World) (hn : a.length = n) (ha : Rd w A (ens a)) (hnl : n ≤ 140737488355328) (hm : b.length = m) (hb : Rd w B (ens b)) (hml : m ≤ 140737488355328) :
    Calls Tryd.prog 52 #[.slice A n ca, .slice B m cb, .int .i64 i] w fun e w' => e = .returned (.bool (Fs.nmd a i || Fs.nmd b i)) ∧ w = w' := by
  have HN := hid hn
  have HM := hid hm
  have HA := hid ha
  have HB := hid hb
  have hnI : (n : Int) ≤ 140737488355328 := by omega
  have hmI : (m : Int) ≤ 140737488355328 := by omega
  clear hn ha hnl hm hb hml
  go_enter Tryd.func52, Tryd.ntmps52
  go_wp2
  go_loop [7] (fun c => ∃ k : Nat, k ≤ n ∧ c = .int .i64 k ∧ Hid (∀ j (hj : j < a.length), j < k → a[j].2 ≠ i)) (fun c => n - (intOf c).toNat)
  case atStart => exact ⟨0, Nat.zero_le _, rfl, hid (fun j hj h => absurd h (Nat.not_lt_zero _))⟩
  case round =>
    obtain ⟨k, hk, rfl, HI⟩ := hrel
    by_cases hlt : k < n
    · have hka : k < a.length := by rw [HN.out]; exact hlt
      obtain ⟨b1, o1, e1, l1, c1⟩ := HA.out.ents k hka
      subst e1
      have d1 := (c1 k hka).2
      have hkI : (k : Int) < (n : Int) := by omega
      by_cases he : a[k].2 = i
      · have HV := hid (Fs.nmd_at hka he)
        rw [he] at d1
        clear c1 he hka
        go_wp2
        go_returns
        exact ⟨by rw [HV.out]; rfl, rfl⟩
      · have HI2 := hid (show ∀ j (hj : j < a.length), j < k + 1 → a[j].2 ≠ i from fun j hj h => by
          by_cases hjk : j = k
          · subst hjk; exact he
          · exact HI.out j hj (by omega))
        have e0 : (a[k].2 == i) = false := beq_eq_false_iff_ne.2 he
        generalize a[k].2 = x at *
        clear c1 he hka
        go_wp2
        go_round
        case rel => exact ⟨k + 1, by omega, by go_num, HI2⟩
        case measure => simp [intOf]; omega
    · obtain rfl : k = n := by omega
      have HV1 := hid (Fs.nmd_no (fun j hj => HI.out j hj (by rw [← HN.out]; exact hj)))
      clear hlt HI
      go_wp2
      go_loop [8] (fun c => ∃ k : Nat, k ≤ m ∧ c = .int .i64 k ∧ Hid (∀ j (hj : j < b.length), j < k → b[j].2 ≠ i)) (fun c => m - (intOf c).toNat)
      case atStart => exact ⟨0, Nat.zero_le _, rfl, hid (fun j hj h => absurd h (Nat.not_lt_zero _))⟩
      case round =>
        obtain ⟨k, hk, rfl, HI⟩ := hrel
        by_cases hlt : k < m
        · have hka : k < b.length := by rw [HM.out]; exact hlt
          obtain ⟨b1, o1, e1, l1, c1⟩ := HB.out.ents k hka
          subst e1
          have d1 := (c1 k hka).2
          have hkI : (k : Int) < (m : Int) := by omega
          by_cases he : b[k].2 = i
          · have HV := hid (Fs.nmd_at hka he)
            rw [he] at d1
            clear c1 he hka
            go_wp2
            go_returns
            exact ⟨by rw [HV.out, HV1.out]; rfl, rfl⟩
          · have HI2 := hid (show ∀ j (hj : j < b.length), j < k + 1 → b[j].2 ≠ i from fun j hj h => by
              by_cases hjk : j = k
              · subst hjk; exact he
              · exact HI.out j hj (by omega))
            have e0 : (b[k].2 == i) = false := beq_eq_false_iff_ne.2 he
            generalize b[k].2 = x at *
            clear c1 he hka
            go_wp2
            go_round
            case rel => exact ⟨k + 1, by omega, by go_num, HI2⟩
            case measure => simp [intOf]; omega
        · obtain rfl : k = m := by omega
          have HV2 := hid (Fs.nmd_no (fun j hj => HI.out j hj (by rw [← HM.out]; exact hj)))
          clear hlt HI
          go_wp2
          go_returns
          exact ⟨by rw [HV1.out, HV2.out]; rfl, rfl⟩
theorem named1_any (x : Ent) (i : Int) (g : Nat) (w : World) (hg : w.cell? ⟨g, 0, none⟩ = some (.int .i64 i)) :
    Calls Tryd.prog 100 #[entV x, .pointer (some ⟨g, 0, none⟩)] w fun e w' => e = .returned (.bool (x.2 == i)) ∧ Ext w w' := by
  obtain ⟨s, j⟩ := x
  have lg := block_lt_of_cell hg
  simp only at lg
  go_enter Tryd.func100, Tryd.ntmps100
  go_wp2
  go_returns
  exact ⟨rfl, (ext_refl _).new _⟩
set_option maxHeartbeats 800000 in
theorem namedIx_any (l : List Ent) (i : Int) (A : Option Addr) (n cap g : Nat) (w : World) (hn : l.length = n) (hr : Rd w A (ens l)) (hnl : n ≤ 140737488355328) (hg : w.cell? ⟨g, 0, none⟩ = some (.int .i64 i)) :
    Calls Tryd.prog 118 #[.slice A n cap, .func (.func 100) #[] #[.pointer (some ⟨g, 0, none⟩)]] w fun e w' => (∃ r : Int, e = .returned (.int .i64 r) ∧ decide (0 ≤ r) = Fs.nmd l i) ∧ Ext w w' := by
  have HN := hid hn
  have HA := hid hr
  have HC := hid (fun (x : Ent) wx (hx : Ext w wx) => named1_any x i g wx (ext_cell hx hg))
  have hnI : (n : Int) ≤ 140737488355328 := by omega
  clear hr hn hnl hg
  go_enter Tryd.func118, Tryd.ntmps118
  go_wp2
  go_loopw [5, 8] (fun _ c wr => ∃ k : Nat, k ≤ n ∧ c = .int .i64 k ∧ Hid (∀ j (hj : j < l.length), j < k → l[j].2 ≠ i) ∧ Ext w wr) (fun _ c _ => n - (intOf c).toNat)
  case atStart => exact ⟨0, Nat.zero_le _, rfl, hid (fun j hj h => absurd h (Nat.not_lt_zero _)), ext_refl _⟩
  case round =>
    obtain ⟨k, hk, rfl, HI, X⟩ := hrel
    by_cases hlt : k < n
    · have hka : k < l.length := by rw [HN.out]; exact hlt
      obtain ⟨b1, o1, e1, l1, c1⟩ := HA.out.ents k hka
      subst e1
      have d0 := (X.cell (p := ⟨b1, o1 + k * 2, none⟩) l1).trans (c1 k hka).1
      have d1 := (X.cell (p := ⟨b1, o1 + k * 2 + 1, none⟩) l1).trans (c1 k hka).2
      have hkI : (k : Int) < (n : Int) := by omega
      have HCK := hid (HC.out l[k] _ X)
      by_cases he : l[k].2 = i
      · have HV := hid (Fs.nmd_at hka he)
        rw [show (l[k].2 == i) = true by rw [he]; simp] at HCK
        clear he c1
        generalize l[k] = x at *
        clear hka
        obtain ⟨s, j⟩ := x
        simp only at d0 d1
        go_wp2_with (go_at_call 100; go_loud (refine HCK.out.mono ?_; rintro e w2 ⟨rfl, x2⟩; have X2 := hid x2; clear x2))
        go_returns
        exact ⟨⟨_, rfl, by rw [HV.out]; simp⟩, X.then X2.out⟩
      · have HI2 := hid (show ∀ j (hj : j < l.length), j < k + 1 → l[j].2 ≠ i from fun j hj h => by
          by_cases hjk : j = k
          · subst hjk; exact he
          · exact HI.out j hj (by omega))
        rw [show (l[k].2 == i) = false from beq_eq_false_iff_ne.2 he] at HCK
        clear he c1
        generalize l[k] = x at *
        clear hka
        obtain ⟨s, j⟩ := x
        simp only at d0 d1
        go_wp2_with (go_at_call 100; go_loud (refine HCK.out.mono ?_; rintro e w2 ⟨rfl, x2⟩; have X2 := hid x2; clear x2))
        go_roundw
        case rel => exact ⟨k + 1, by omega, by go_num, HI2, X.then X2.out⟩
        case measure => simp [intOf]; omega
    · obtain rfl : k = n := by omega
      have HV := hid (Fs.nmd_no (fun j hj => HI.out j hj (by rw [← HN.out]; exact hj)))
      clear hlt HI
      go_wp2
      go_returns
      exact ⟨⟨_, rfl, by rw [HV.out]; rfl⟩, X⟩
theorem namedIn_any (l : List Ent) (i : Int) (A : Option Addr) (n cap g : Nat) (w : World) (hn : l.length = n) (hr : Rd w A (ens l)) (hnl : n ≤ 140737488355328) (hg : w.cell? ⟨g, 0, none⟩ = some (.int .i64 i)) :
    Calls Tryd.prog 99 #[.slice A n cap, .func (.func 100) #[] #[.pointer (some ⟨g, 0, none⟩)]] w fun e w' => e = .returned (.bool (Fs.nmd l i)) ∧ Ext w w' := by
  have C := hid (namedIx_any l i A n cap g w hn hr hnl hg)
  clear hn hr hnl hg
  go_enter Tryd.func99, Tryd.ntmps99
  go_wp2_with fail
  refine Calls.mono C.out ?_
  rintro e w1 ⟨⟨r, rfl, hr⟩, hx⟩
  have X := hid hx
  have HR := hid hr
  clear hx hr
  cases hq : Fs.nmd l i with
  | true =>
    have h0 : 0 ≤ r := of_decide_eq_true (HR.out.trans hq)
    clear HR
    go_wp2
    go_returns
    exact ⟨ret_bool (by rw [hq]; try exact decide_eq_true h0), X.out⟩
  | false =>
    have h0 : r < 0 := by have := of_decide_eq_false (HR.out.trans hq); omega
    clear HR
    go_wp2
    go_returns
    exact ⟨ret_bool (by rw [hq]; try exact decide_eq_false (by omega)), X.out⟩
theorem named_any (l : List Ent) (i : Int) (A : Option Addr) (n cap : Nat) (w : World) (hn : l.length = n) (hr : Rd w A (ens l)) (hnl : n ≤ 140737488355328) :
    Calls Tryd.prog 50 #[.slice A n cap, .int .i64 i] w fun e w' => e = .returned (.bool (Fs.nmd l i)) ∧ Ext w w' := by
  have C := hid (fun (g : Nat) wx (hx : Ext w wx) (hg : wx.cell? ⟨g, 0, none⟩ = some (.int .i64 i)) => namedIn_any l i A n cap g wx hn (hr.keep hx) hnl hg)
  generalize Fs.nmd l i = q at *
  clear hn hr hnl
  go_enter Tryd.func50, Tryd.ntmps50
  go_wp2_with (go_at_call 99; go_loud (refine (C.out _ _ ((ext_refl _).new _) ((Blk.new _ _ _).cell 0)).mono ?_; rintro e w2 ⟨rfl, x2⟩; have X2 := hid (((ext_refl w).new _).then x2); clear x2))
  go_returns
  exact ⟨rfl, X2.out⟩
end Go.Proofs.YtolhifnlahllnaaDoor
