/- Tables: At: walks. -/
import Derived.Test.YtolhifnlahllnaaGreatDoorFsp
import Derived.Test.YtolhifnlahllnaaGreatDoorGen
namespace Hy.Tb
open Go
/-- the place of a column of a name; -1: there is none -/
def ixc : List Ent → ByteArray → Nat → Int
  | [], _, _ => -1
  | x :: r, s, i => if x.1 = s then (i : Int) else ixc r s (i + 1)
theorem ixc_here {l : List Ent} {s : ByteArray} {k : Nat} (h : k < l.length) (he : l[k].1 = s) : ixc (l.drop k) s k = k := by
  rw [List.drop_eq_getElem_cons h]; simp only [ixc]; rw [if_pos he]
theorem ixc_next {l : List Ent} {s : ByteArray} {k : Nat} (h : k < l.length) (he : l[k].1 ≠ s) : ixc (l.drop k) s k = ixc (l.drop (k + 1)) s (k + 1) := by
  rw [List.drop_eq_getElem_cons h]; simp only [ixc]; rw [if_neg he]
theorem tl_ne {s t : ByteArray} (h : s ≠ t) : (s.toList == t.toList) = false := beq_eq_false_iff_ne.2 fun e => h (by
  rw [ByteArray.toList_eq, ByteArray.toList_eq] at e
  exact ByteArray.ext (Array.ext' e))
end Hy.Tb
namespace Go.Proofs.YtolhifnlahllnaaGreatDoor
open Go.RowKit Hy
theorem at1_any (x : Ent) (s : ByteArray) (g : Nat) (w : World) (hg : w.cell? ⟨g, 0, none⟩ = some (.string s)) :
    Calls Tryz.prog 81 #[.agg #[.string x.1, .int .i64 x.2], .pointer (some ⟨g, 0, none⟩)] w fun e w' => e = .returned (.bool (x.1.toList == s.toList)) ∧ Ext w w' := by
  obtain ⟨t, j⟩ := x
  have lg := block_lt_of_cell hg
  simp only at lg
  go_enter Tryz.func81, Tryz.ntmps81
  go_wp2
  go_returns
  exact ⟨rfl, (ext_refl _).new _⟩
set_option maxHeartbeats 800000 in
theorem atIx_any (l : List Ent) (s : ByteArray) (A : Option Addr) (n cap g : Nat) (w : World) (hn : l.length = n) (hr : Rd w A (ens l)) (hnl : n ≤ 140737488355328) (hg : w.cell? ⟨g, 0, none⟩ = some (.string s)) :
    Calls Tryz.prog 80 #[.slice A n cap, .func (.func 81) #[] #[.pointer (some ⟨g, 0, none⟩)]] w fun e w' => e = .returned (.int .i64 (Tb.ixc l s 0)) ∧ Ext w w' := by
  have HN := hid hn
  have HA := hid hr
  have HC := hid (fun (x : Ent) wx (hx : Ext w wx) => at1_any x s g wx (ext_cell hx hg))
  have hnI : (n : Int) ≤ 140737488355328 := by omega
  obtain ⟨R, hR⟩ : ∃ R, R = Tb.ixc l s 0 := ⟨_, rfl⟩
  rw [← hR]
  have HR := hid (show R = Tb.ixc (l.drop 0) s 0 from hR)
  clear hr hn hnl hg hR
  go_enter Tryz.func80, Tryz.ntmps80
  go_wp2
  go_loopw [5, 8] (fun _ c wr => ∃ k : Nat, k ≤ n ∧ c = .int .i64 k ∧ Hid (R = Tb.ixc (l.drop k) s k) ∧ Ext w wr) (fun _ c _ => n - (intOf c).toNat)
  case atStart => exact ⟨0, Nat.zero_le _, rfl, HR, ext_refl _⟩
  case round =>
    obtain ⟨k, hk, rfl, HI, X⟩ := hrel
    by_cases hlt : k < n
    · have hka : k < l.length := by rw [HN.out]; exact hlt
      obtain ⟨b1, o1, e1, l1, c1⟩ := HA.out.ents k hka
      subst e1
      have d0 := (X.cell (p := ⟨b1, o1 + k * 2, none⟩) l1).trans (c1 k hka).1
      have d1 := (X.cell (p := ⟨b1, o1 + k * 2 + 1, none⟩) l1).trans (c1 k hka).2
      have hkI : (k : Int) < (n : Int) := by omega
      have HCK := hid (HC.out l[k] _ X)
      by_cases he : l[k].1 = s
      · have HV := hid (HI.out.trans (Tb.ixc_here hka he))
        rw [show (l[k].1.toList == s.toList) = true by rw [he]; simp] at HCK
        clear he c1
        generalize l[k] = x at *
        clear hka
        obtain ⟨t, j⟩ := x
        simp only at d0 d1
        go_wp2_with (go_at_call 81; go_loud (refine HCK.out.mono ?_; rintro e w2 ⟨rfl, x2⟩; have X2 := hid x2; clear x2))
        go_returns
        exact ⟨by rw [HV.out]; rfl, X.then X2.out⟩
      · have HI2 := hid (HI.out.trans (Tb.ixc_next hka he))
        rw [Tb.tl_ne he] at HCK
        clear he c1
        generalize l[k] = x at *
        clear hka
        obtain ⟨t, j⟩ := x
        simp only at d0 d1
        go_wp2_with (go_at_call 81; go_loud (refine HCK.out.mono ?_; rintro e w2 ⟨rfl, x2⟩; have X2 := hid x2; clear x2))
        go_roundw
        case rel => exact ⟨k + 1, by omega, by go_num, HI2, X.then X2.out⟩
        case measure => simp [intOf]; omega
    · obtain rfl : k = n := by omega
      have HV := hid (show R = -1 by rw [HI.out, List.drop_of_length_le (by rw [HN.out]; exact Nat.le_refl _)]; rfl)
      clear hlt HI
      go_wp2
      go_returns
      exact ⟨by rw [HV.out]; rfl, X⟩
/-- the place of a column of a name -/
theorem tat_any (l : List Ent) (s : ByteArray) (A : Option Addr) (n cap : Nat) (w : World) (hn : l.length = n) (hr : Rd w A (ens l)) (hnl : n ≤ 140737488355328) :
    Calls Tryz.prog 42 #[.slice A n cap, .string s] w fun e w' => e = .returned (.int .i64 (Tb.ixc l s 0)) ∧ Ext w w' := by
  have C := hid (fun wx (hx : Ext w wx) g (hg : wx.cell? ⟨g, 0, none⟩ = some (.string s)) => atIx_any l s A n cap g wx hn (hr.keep hx) hnl hg)
  clear hn hr hnl
  go_enter Tryz.func42, Tryz.ntmps42
  go_wp2_with fail
  refine Calls.mono (C.out _ (Ext.new (ext_refl w) _) _ ((Blk.new w 9 #[.string s]).cell 0)) ?_
  rintro e w1 ⟨rfl, hx⟩
  have X := hid (Ext.then (Ext.new (ext_refl w) (.cells #[.string s] 9)) hx)
  clear hx
  go_wp2
  go_returns
  exact ⟨rfl, X.out⟩
end Go.Proofs.YtolhifnlahllnaaGreatDoor
