/- Tables: col: walk. -/
import Derived.Test.YtolhifnlahllnaaGreatDoorTba
import Derived.Test.YtolhifnlahllnaaGreatDoorTna
import Derived.Test.YtolhifnlahllnaaGreatDoorKnd
namespace Hy.Tb
open Go
/-- what is wrong with a column beside those before it -/
@[irreducible] def colck (c : Ent) (pre : List Ent) : Nat :=
  if Nm.nm c.1.data.toList = false then 1 else if 0 ≤ ixc pre c.1 0 then 6 else if c.2 = 1 ∨ c.2 = 2 then 0 else 7
theorem colck_name {c : Ent} {pre : List Ent} (h : Nm.nm c.1.data.toList = false) : colck c pre = 1 := by unfold colck; rw [if_pos h]
theorem colck_twice {c : Ent} {pre : List Ent} (h : Nm.nm c.1.data.toList = true) (h2 : 0 ≤ ixc pre c.1 0) : colck c pre = 6 := by unfold colck; rw [if_neg (by rw [h]; decide), if_pos h2]
theorem colck_kind {c : Ent} {pre : List Ent} (h : Nm.nm c.1.data.toList = true) (h2 : ¬ 0 ≤ ixc pre c.1 0) : colck c pre = if c.2 = 1 ∨ c.2 = 2 then 0 else 7 := by unfold colck; rw [if_neg (by rw [h]; decide), if_neg h2]
end Hy.Tb
namespace Go.Proofs.YtolhifnlahllnaaGreatDoor
open Go.RowKit Hy
theorem col_any (s : ByteArray) (y : Int) (l : List Ent) (A : Option Addr) (n cap : Nat) (w : World) (hn : l.length = n) (hr : Rd w A (ens l)) (hnl : n ≤ 140737488355328) (hs : s.size ≤ 140737488355328) :
    Calls Tryz.prog 61 #[.agg #[.string s, .int .i64 y], .slice A n cap] w fun e w' => e = .returned (.int .i64 (Tb.colck (s, y) l : Nat)) ∧ Ext w w' := by
  have HNM := hid (fun wx => name_any s wx hs)
  have HAT := hid (fun wx (hx : Ext w wx) => tat_any l s A n cap wx hn (hr.keep hx) hnl)
  have XN := hid (Ext.new (ext_refl w) (.cells #[.string s, .int .i64 y] 39))
  have BN := hid (Blk.new w 39 #[.string s, .int .i64 y])
  cases hm : Nm.nm s.data.toList
  · have HV := hid (Tb.colck_name (c := (s, y)) (pre := l) hm)
    rw [hm] at HNM
    clear hn hr hnl hs hm
    go_enter Tryz.func61, Tryz.ntmps61
    go_wp2_with fail
    refine Calls.mono (HNM.out _) ?_
    rintro e w1 ⟨rfl, hx⟩
    have X := hid (Ext.then XN.out hx)
    clear hx
    go_wp2
    go_returns
    exact ⟨by rw [HV.out]; rfl, X.out⟩
  · rw [hm] at HNM
    by_cases h2 : 0 ≤ Tb.ixc l s 0
    · have HV := hid (Tb.colck_twice (c := (s, y)) (pre := l) hm h2)
      generalize Tb.ixc l s 0 = i at *
      clear hn hr hnl hs hm
      go_enter Tryz.func61, Tryz.ntmps61
      go_wp2_with fail
      refine Calls.mono (HNM.out _) ?_
      rintro e w1 ⟨rfl, hx⟩
      have X := hid (Ext.then XN.out hx)
      have B := hid (BN.out.keep hx)
      clear hx
      have p0 := B.out.cell 0
      go_wp2_with fail
      refine Calls.mono (HAT.out _ X.out) ?_
      rintro e w2 ⟨rfl, hx⟩
      replace X := hid (X.out.then hx)
      clear hx p0
      go_wp2
      go_returns
      exact ⟨by rw [HV.out]; rfl, X.out⟩
    · have HV := hid (Tb.colck_kind (c := (s, y)) (pre := l) hm h2)
      generalize Tb.ixc l s 0 = i at *
      have h3 : i < 0 := by omega
      clear hn hr hnl hs hm h2
      by_cases hk : y = 1 ∨ y = 2
      all_goals (
        have HK := hid (fun wx => kind_any y wx)
        first
        | (rw [if_pos hk] at HV; rw [decide_eq_true hk] at HK)
        | (rw [if_neg hk] at HV; rw [decide_eq_false hk] at HK)
        clear hk
        go_enter Tryz.func61, Tryz.ntmps61
        go_wp2_with fail
        refine Calls.mono (HNM.out _) ?_
        rintro e w1 ⟨rfl, hx⟩
        have X := hid (Ext.then XN.out hx)
        have B := hid (BN.out.keep hx)
        clear hx
        have p0 := B.out.cell 0
        go_wp2_with fail
        refine Calls.mono (HAT.out _ X.out) ?_
        rintro e w2 ⟨rfl, hx⟩
        replace X := hid (X.out.then hx)
        replace B := hid (B.out.keep hx)
        clear hx p0
        have p1 := B.out.cell 1
        go_wp2_with fail
        refine (HK.out _).mono ?_
        rintro e w3 ⟨rfl, rfl⟩
        go_wp2
        go_returns
        exact ⟨by rw [HV.out]; rfl, X.out⟩)
end Go.Proofs.YtolhifnlahllnaaGreatDoor
