/- The law RankSelects: walk, one theorem a way (printed by gen_rsel.py). -/
import Derived.Test.YtikdmnedbfpkeaaDoorRkm
namespace Hy.Mrk
theorem sel_spec : ∀ (l : List Bool) (k i j : Nat), sel l k i = some j → ∃ t, j = i + t ∧ ∃ h : t < l.length, l[t] = true ∧ (l.take t).count true = k ∧ k < l.count true := by
  intro l
  induction l with
  | nil => intro k i j h; cases h
  | cons b l ih =>
    intro k i j h
    cases b with
    | false =>
      obtain ⟨t, rfl, ht, h1, h2, h3⟩ := ih k (i + 1) j h
      exact ⟨t + 1, by omega, by simpa using ht, by simpa using h1, by simpa using h2, by simpa using h3⟩
    | true =>
      cases k with
      | zero =>
        have : i = j := Option.some.inj h
        exact ⟨0, by omega, by simp, by simp, by simp, by simp⟩
      | succ k =>
        obtain ⟨t, rfl, ht, h1, h2, h3⟩ := ih k (i + 1) j h
        exact ⟨t + 1, by omega, by simpa using ht, by simpa using h1, by simpa using h2, by simpa using h3⟩
theorem sel_none_le : ∀ (l : List Bool) (k i : Nat), sel l k i = none → l.count true ≤ k := by
  intro l
  induction l with
  | nil => intro k i h; simp
  | cons b l ih =>
    intro k i h
    cases b with
    | false => simpa using ih k (i + 1) h
    | true =>
      cases k with
      | zero => cases h
      | succ k => simpa using ih k (i + 1) h
theorem sel_of : ∀ (l : List Bool) (t i : Nat) (h : t < l.length), l[t] = true → sel l ((l.take t).count true) i = some (i + t) := by
  intro l
  induction l with
  | nil => intro t i h; simp at h
  | cons b l ih =>
    intro t i h hb
    cases t with
    | zero => simp at hb; subst hb; rfl
    | succ t =>
      have := ih t (i + 1) (by simpa using h) (by simpa using hb)
      cases b with
      | false =>
        rw [show ((false :: l).take (t + 1)).count true = (l.take t).count true from by simp]
        show sel l _ (i + 1) = _
        rw [this]; congr 1; omega
      | true =>
        rw [show ((true :: l).take (t + 1)).count true = (l.take t).count true + 1 from by simp]
        show sel l _ (i + 1) = _
        rw [this]; congr 1; omega
end Hy.Mrk
namespace Go.Proofs.YtikdmnedbfpkeaaDoor
open Go.RowKit Hy
set_option maxHeartbeats 1600000 in
theorem rsel_neg_low (l : List Bool) (at' k : Int) (A : Option Addr) (n cap : Nat) (w : World) (hn : l.length = n) (hr : Rd w A (bls l)) (_hcap : n ≤ cap) (hnl : n ≤ 140737488355328) (hk : k ≤ 9223372036854775807) (hT : TabOk w) (hk0 : k < 0) (hat : at' < 0) :
    Calls Tryd.prog 4 #[.slice A n cap, .int .i64 at', .int .i64 k] w fun e w' => e = .returned (.bool true) ∧ Ext w w' := by
  have H1 := hid (fun wx (hx : Ext w wx) => select_any l k A n cap wx hn (hr.keep hx) hnl hk (hT.keep hx))
  have H5 := hid (fun wx (hx : Ext w wx) => rankBegun_any wx (hT.keep hx))
  have H6 := hid (fun wx (hx : Ext w wx) => count_any l A n cap wx hn (hr.keep hx) hnl)
  have hU : Mrk.selV l k = (0, 3) := by unfold Mrk.selV; rw [if_pos hk0]
  rw [hU] at H1
  clear hU
  clear hn hr _hcap hnl hk hT
  go_enter Tryd.func4, Tryd.ntmps4
  go_wp2_with fail
  refine Calls.mono (H1.out _ (ext_refl _)) ?_
  rintro e w1 ⟨rfl, hx⟩
  have X := hid hx
  clear hx
  go_wp2_with fail
  refine Calls.mono (H5.out _ X.out) ?_
  rintro e w2 ⟨rfl, hx⟩
  replace X := hid (X.out.then hx)
  clear hx
  go_wp2
  go_returns
  exact ⟨rfl, X.out⟩
set_option maxHeartbeats 1600000 in
theorem rsel_neg_high (l : List Bool) (at' k : Int) (A : Option Addr) (n cap : Nat) (w : World) (hn : l.length = n) (hr : Rd w A (bls l)) (_hcap : n ≤ cap) (hnl : n ≤ 140737488355328) (hk : k ≤ 9223372036854775807) (hT : TabOk w) (hk0 : k < 0) (hat0 : ¬ at' < 0) (hat : (n : Int) ≤ at') :
    Calls Tryd.prog 4 #[.slice A n cap, .int .i64 at', .int .i64 k] w fun e w' => e = .returned (.bool true) ∧ Ext w w' := by
  have H1 := hid (fun wx (hx : Ext w wx) => select_any l k A n cap wx hn (hr.keep hx) hnl hk (hT.keep hx))
  have H5 := hid (fun wx (hx : Ext w wx) => rankBegun_any wx (hT.keep hx))
  have H6 := hid (fun wx (hx : Ext w wx) => count_any l A n cap wx hn (hr.keep hx) hnl)
  have hU : Mrk.selV l k = (0, 3) := by unfold Mrk.selV; rw [if_pos hk0]
  rw [hU] at H1
  clear hU
  clear hn hr _hcap hnl hk hT
  go_enter Tryd.func4, Tryd.ntmps4
  go_wp2_with fail
  refine Calls.mono (H1.out _ (ext_refl _)) ?_
  rintro e w1 ⟨rfl, hx⟩
  have X := hid hx
  clear hx
  go_wp2_with fail
  refine Calls.mono (H5.out _ X.out) ?_
  rintro e w2 ⟨rfl, hx⟩
  replace X := hid (X.out.then hx)
  clear hx
  go_wp2
  go_returns
  exact ⟨rfl, X.out⟩
set_option maxHeartbeats 1600000 in
theorem rsel_neg_no (l : List Bool) (at' k : Int) (A : Option Addr) (n cap : Nat) (w : World) (hn : l.length = n) (hr : Rd w A (bls l)) (_hcap : n ≤ cap) (hnl : n ≤ 140737488355328) (hk : k ≤ 9223372036854775807) (hT : TabOk w) (hk0 : k < 0) (t : Nat) (hat : at' = (t : Int)) (ht : t < n) (htb : l[t]? = some false) :
    Calls Tryd.prog 4 #[.slice A n cap, .int .i64 at', .int .i64 k] w fun e w' => e = .returned (.bool true) ∧ Ext w w' := by
  have H1 := hid (fun wx (hx : Ext w wx) => select_any l k A n cap wx hn (hr.keep hx) hnl hk (hT.keep hx))
  have H5 := hid (fun wx (hx : Ext w wx) => rankBegun_any wx (hT.keep hx))
  have H6 := hid (fun wx (hx : Ext w wx) => count_any l A n cap wx hn (hr.keep hx) hnl)
  have hU : Mrk.selV l k = (0, 3) := by unfold Mrk.selV; rw [if_pos hk0]
  rw [hU] at H1
  clear hU
  subst hat
  have htI : (t : Int) < (n : Int) := by omega
  have ht0 : (0 : Int) ≤ (t : Int) := by omega
  obtain ⟨b1, o1, e1, l1, c1⟩ := hr.bool (by omega)
  subst e1
  have dt : w.cell? ⟨b1, o1 + t, none⟩ = some (.bool false) := by rw [c1 t (by omega)]; rw [List.getElem?_eq_getElem (by omega)] at htb; rw [Option.some.inj htb]
  clear c1
  clear hn hr _hcap hnl hk hT htb ht
  go_enter Tryd.func4, Tryd.ntmps4
  go_wp2_with fail
  refine Calls.mono (H1.out _ (ext_refl _)) ?_
  rintro e w1 ⟨rfl, hx⟩
  have X := hid hx
  clear hx
  go_wp2_with fail
  refine Calls.mono (H5.out _ X.out) ?_
  rintro e w2 ⟨rfl, hx⟩
  replace X := hid (X.out.then hx)
  clear hx
  have dt2 := (X.out.cell (p := ⟨b1, o1 + t, none⟩) l1).trans dt
  go_wp2
  go_returns
  exact ⟨rfl, X.out⟩
set_option maxHeartbeats 1600000 in
theorem rsel_neg_yes (l : List Bool) (at' k : Int) (A : Option Addr) (n cap : Nat) (w : World) (hn : l.length = n) (hr : Rd w A (bls l)) (hcap : n ≤ cap) (hnl : n ≤ 140737488355328) (hk : k ≤ 9223372036854775807) (hT : TabOk w) (hk0 : k < 0) (t : Nat) (hat : at' = (t : Int)) (ht : t < n) (htb : l[t]? = some true) (c : Nat) (hc : c ≤ 140737488355328) (hRt : Mrk.rankV l (t : Int) = ((c : Int), 0)) (hSt : Mrk.selV l (c : Int) = ((t : Int), 0)) :
    Calls Tryd.prog 4 #[.slice A n cap, .int .i64 at', .int .i64 k] w fun e w' => e = .returned (.bool true) ∧ Ext w w' := by
  have H1 := hid (fun wx (hx : Ext w wx) => select_any l k A n cap wx hn (hr.keep hx) hnl hk (hT.keep hx))
  have H5 := hid (fun wx (hx : Ext w wx) => rankBegun_any wx (hT.keep hx))
  have H6 := hid (fun wx (hx : Ext w wx) => count_any l A n cap wx hn (hr.keep hx) hnl)
  have hU : Mrk.selV l k = (0, 3) := by unfold Mrk.selV; rw [if_pos hk0]
  rw [hU] at H1
  clear hU
  subst hat
  have htI : (t : Int) < (n : Int) := by omega
  have ht0 : (0 : Int) ≤ (t : Int) := by omega
  have HRT := hid (fun wx (hx : Ext w wx) => rank_all l (t : Int) A n cap wx hn (hr.keep hx) hcap hnl)
  rw [hRt] at HRT
  have HST := hid (fun wx (hx : Ext w wx) => select_any l (c : Int) A n cap wx hn (hr.keep hx) hnl (by omega) (hT.keep hx))
  rw [hSt] at HST
  have ett : ((t : Int) == (t : Int)) = true := by simp
  clear hRt hSt hc
  obtain ⟨b1, o1, e1, l1, c1⟩ := hr.bool (by omega)
  subst e1
  have dt : w.cell? ⟨b1, o1 + t, none⟩ = some (.bool true) := by rw [c1 t (by omega)]; rw [List.getElem?_eq_getElem (by omega)] at htb; rw [Option.some.inj htb]
  clear c1
  clear hn hr hcap hnl hk hT htb ht
  go_enter Tryd.func4, Tryd.ntmps4
  go_wp2_with fail
  refine Calls.mono (H1.out _ (ext_refl _)) ?_
  rintro e w1 ⟨rfl, hx⟩
  have X := hid hx
  clear hx
  go_wp2_with fail
  refine Calls.mono (H5.out _ X.out) ?_
  rintro e w2 ⟨rfl, hx⟩
  replace X := hid (X.out.then hx)
  clear hx
  have dt2 := (X.out.cell (p := ⟨b1, o1 + t, none⟩) l1).trans dt
  go_wp2_with fail
  refine Calls.mono (HRT.out _ X.out) ?_
  rintro e w5 ⟨rfl, hx⟩
  replace X := hid (X.out.then hx)
  clear hx dt2
  go_wp2_with fail
  refine Calls.mono (HST.out _ X.out) ?_
  rintro e w6 ⟨rfl, hx⟩
  replace X := hid (X.out.then hx)
  clear hx
  go_wp2
  go_returns
  exact ⟨rfl, X.out⟩
set_option maxHeartbeats 1600000 in
theorem rsel_none_low (l : List Bool) (at' k : Int) (A : Option Addr) (n cap : Nat) (w : World) (hn : l.length = n) (hr : Rd w A (bls l)) (_hcap : n ≤ cap) (hnl : n ≤ 140737488355328) (hk : k ≤ 9223372036854775807) (hT : TabOk w) (hk0 : 0 ≤ k) (hU : Mrk.selV l k = (0, 5)) (hCk : ((l.count true : Nat) : Int) ≤ k) (hat : at' < 0) :
    Calls Tryd.prog 4 #[.slice A n cap, .int .i64 at', .int .i64 k] w fun e w' => e = .returned (.bool true) ∧ Ext w w' := by
  have H1 := hid (fun wx (hx : Ext w wx) => select_any l k A n cap wx hn (hr.keep hx) hnl hk (hT.keep hx))
  have H5 := hid (fun wx (hx : Ext w wx) => rankBegun_any wx (hT.keep hx))
  have H6 := hid (fun wx (hx : Ext w wx) => count_any l A n cap wx hn (hr.keep hx) hnl)
  rw [hU] at H1
  generalize l.count true = C at *
  have hCk2 : ¬ k < (C : Int) := by omega
  clear hU
  clear hn hr _hcap hnl hk hT
  go_enter Tryd.func4, Tryd.ntmps4
  go_wp2_with fail
  refine Calls.mono (H1.out _ (ext_refl _)) ?_
  rintro e w1 ⟨rfl, hx⟩
  have X := hid hx
  clear hx
  go_wp2_with fail
  refine Calls.mono (H5.out _ X.out) ?_
  rintro e w2 ⟨rfl, hx⟩
  replace X := hid (X.out.then hx)
  clear hx
  go_wp2_with fail
  refine Calls.mono (H6.out _ X.out) ?_
  rintro e w3 ⟨rfl, hx⟩
  replace X := hid (X.out.then hx)
  clear hx
  go_wp2
  go_returns
  exact ⟨rfl, X.out⟩
set_option maxHeartbeats 1600000 in
theorem rsel_none_high (l : List Bool) (at' k : Int) (A : Option Addr) (n cap : Nat) (w : World) (hn : l.length = n) (hr : Rd w A (bls l)) (_hcap : n ≤ cap) (hnl : n ≤ 140737488355328) (hk : k ≤ 9223372036854775807) (hT : TabOk w) (hk0 : 0 ≤ k) (hU : Mrk.selV l k = (0, 5)) (hCk : ((l.count true : Nat) : Int) ≤ k) (hat0 : ¬ at' < 0) (hat : (n : Int) ≤ at') :
    Calls Tryd.prog 4 #[.slice A n cap, .int .i64 at', .int .i64 k] w fun e w' => e = .returned (.bool true) ∧ Ext w w' := by
  have H1 := hid (fun wx (hx : Ext w wx) => select_any l k A n cap wx hn (hr.keep hx) hnl hk (hT.keep hx))
  have H5 := hid (fun wx (hx : Ext w wx) => rankBegun_any wx (hT.keep hx))
  have H6 := hid (fun wx (hx : Ext w wx) => count_any l A n cap wx hn (hr.keep hx) hnl)
  rw [hU] at H1
  generalize l.count true = C at *
  have hCk2 : ¬ k < (C : Int) := by omega
  clear hU
  clear hn hr _hcap hnl hk hT
  go_enter Tryd.func4, Tryd.ntmps4
  go_wp2_with fail
  refine Calls.mono (H1.out _ (ext_refl _)) ?_
  rintro e w1 ⟨rfl, hx⟩
  have X := hid hx
  clear hx
  go_wp2_with fail
  refine Calls.mono (H5.out _ X.out) ?_
  rintro e w2 ⟨rfl, hx⟩
  replace X := hid (X.out.then hx)
  clear hx
  go_wp2_with fail
  refine Calls.mono (H6.out _ X.out) ?_
  rintro e w3 ⟨rfl, hx⟩
  replace X := hid (X.out.then hx)
  clear hx
  go_wp2
  go_returns
  exact ⟨rfl, X.out⟩
set_option maxHeartbeats 1600000 in
theorem rsel_none_no (l : List Bool) (at' k : Int) (A : Option Addr) (n cap : Nat) (w : World) (hn : l.length = n) (hr : Rd w A (bls l)) (_hcap : n ≤ cap) (hnl : n ≤ 140737488355328) (hk : k ≤ 9223372036854775807) (hT : TabOk w) (hk0 : 0 ≤ k) (hU : Mrk.selV l k = (0, 5)) (hCk : ((l.count true : Nat) : Int) ≤ k) (t : Nat) (hat : at' = (t : Int)) (ht : t < n) (htb : l[t]? = some false) :
    Calls Tryd.prog 4 #[.slice A n cap, .int .i64 at', .int .i64 k] w fun e w' => e = .returned (.bool true) ∧ Ext w w' := by
  have H1 := hid (fun wx (hx : Ext w wx) => select_any l k A n cap wx hn (hr.keep hx) hnl hk (hT.keep hx))
  have H5 := hid (fun wx (hx : Ext w wx) => rankBegun_any wx (hT.keep hx))
  have H6 := hid (fun wx (hx : Ext w wx) => count_any l A n cap wx hn (hr.keep hx) hnl)
  rw [hU] at H1
  generalize l.count true = C at *
  have hCk2 : ¬ k < (C : Int) := by omega
  clear hU
  subst hat
  have htI : (t : Int) < (n : Int) := by omega
  have ht0 : (0 : Int) ≤ (t : Int) := by omega
  obtain ⟨b1, o1, e1, l1, c1⟩ := hr.bool (by omega)
  subst e1
  have dt : w.cell? ⟨b1, o1 + t, none⟩ = some (.bool false) := by rw [c1 t (by omega)]; rw [List.getElem?_eq_getElem (by omega)] at htb; rw [Option.some.inj htb]
  clear c1
  clear hn hr _hcap hnl hk hT htb ht
  go_enter Tryd.func4, Tryd.ntmps4
  go_wp2_with fail
  refine Calls.mono (H1.out _ (ext_refl _)) ?_
  rintro e w1 ⟨rfl, hx⟩
  have X := hid hx
  clear hx
  go_wp2_with fail
  refine Calls.mono (H5.out _ X.out) ?_
  rintro e w2 ⟨rfl, hx⟩
  replace X := hid (X.out.then hx)
  clear hx
  go_wp2_with fail
  refine Calls.mono (H6.out _ X.out) ?_
  rintro e w3 ⟨rfl, hx⟩
  replace X := hid (X.out.then hx)
  clear hx
  have dt2 := (X.out.cell (p := ⟨b1, o1 + t, none⟩) l1).trans dt
  go_wp2
  go_returns
  exact ⟨rfl, X.out⟩
set_option maxHeartbeats 1600000 in
theorem rsel_none_yes (l : List Bool) (at' k : Int) (A : Option Addr) (n cap : Nat) (w : World) (hn : l.length = n) (hr : Rd w A (bls l)) (hcap : n ≤ cap) (hnl : n ≤ 140737488355328) (hk : k ≤ 9223372036854775807) (hT : TabOk w) (hk0 : 0 ≤ k) (hU : Mrk.selV l k = (0, 5)) (hCk : ((l.count true : Nat) : Int) ≤ k) (t : Nat) (hat : at' = (t : Int)) (ht : t < n) (htb : l[t]? = some true) (c : Nat) (hc : c ≤ 140737488355328) (hRt : Mrk.rankV l (t : Int) = ((c : Int), 0)) (hSt : Mrk.selV l (c : Int) = ((t : Int), 0)) :
    Calls Tryd.prog 4 #[.slice A n cap, .int .i64 at', .int .i64 k] w fun e w' => e = .returned (.bool true) ∧ Ext w w' := by
  have H1 := hid (fun wx (hx : Ext w wx) => select_any l k A n cap wx hn (hr.keep hx) hnl hk (hT.keep hx))
  have H5 := hid (fun wx (hx : Ext w wx) => rankBegun_any wx (hT.keep hx))
  have H6 := hid (fun wx (hx : Ext w wx) => count_any l A n cap wx hn (hr.keep hx) hnl)
  rw [hU] at H1
  generalize l.count true = C at *
  have hCk2 : ¬ k < (C : Int) := by omega
  clear hU
  subst hat
  have htI : (t : Int) < (n : Int) := by omega
  have ht0 : (0 : Int) ≤ (t : Int) := by omega
  have HRT := hid (fun wx (hx : Ext w wx) => rank_all l (t : Int) A n cap wx hn (hr.keep hx) hcap hnl)
  rw [hRt] at HRT
  have HST := hid (fun wx (hx : Ext w wx) => select_any l (c : Int) A n cap wx hn (hr.keep hx) hnl (by omega) (hT.keep hx))
  rw [hSt] at HST
  have ett : ((t : Int) == (t : Int)) = true := by simp
  clear hRt hSt hc
  obtain ⟨b1, o1, e1, l1, c1⟩ := hr.bool (by omega)
  subst e1
  have dt : w.cell? ⟨b1, o1 + t, none⟩ = some (.bool true) := by rw [c1 t (by omega)]; rw [List.getElem?_eq_getElem (by omega)] at htb; rw [Option.some.inj htb]
  clear c1
  clear hn hr hcap hnl hk hT htb ht
  go_enter Tryd.func4, Tryd.ntmps4
  go_wp2_with fail
  refine Calls.mono (H1.out _ (ext_refl _)) ?_
  rintro e w1 ⟨rfl, hx⟩
  have X := hid hx
  clear hx
  go_wp2_with fail
  refine Calls.mono (H5.out _ X.out) ?_
  rintro e w2 ⟨rfl, hx⟩
  replace X := hid (X.out.then hx)
  clear hx
  go_wp2_with fail
  refine Calls.mono (H6.out _ X.out) ?_
  rintro e w3 ⟨rfl, hx⟩
  replace X := hid (X.out.then hx)
  clear hx
  have dt2 := (X.out.cell (p := ⟨b1, o1 + t, none⟩) l1).trans dt
  go_wp2_with fail
  refine Calls.mono (HRT.out _ X.out) ?_
  rintro e w5 ⟨rfl, hx⟩
  replace X := hid (X.out.then hx)
  clear hx dt2
  go_wp2_with fail
  refine Calls.mono (HST.out _ X.out) ?_
  rintro e w6 ⟨rfl, hx⟩
  replace X := hid (X.out.then hx)
  clear hx
  go_wp2
  go_returns
  exact ⟨rfl, X.out⟩
set_option maxHeartbeats 1600000 in
theorem rsel_found_low (l : List Bool) (at' k : Int) (A : Option Addr) (n cap : Nat) (w : World) (hn : l.length = n) (hr : Rd w A (bls l)) (hcap : n ≤ cap) (hnl : n ≤ 140737488355328) (hk : k ≤ 9223372036854775807) (hT : TabOk w) (hk0 : 0 ≤ k) (j : Nat) (hj : j < n) (hjb : l[j]? = some true) (hU : Mrk.selV l k = ((j : Int), 0)) (hR : Mrk.rankV l (j : Int) = (k, 0)) (hCk : k < ((l.count true : Nat) : Int)) (hat : at' < 0) :
    Calls Tryd.prog 4 #[.slice A n cap, .int .i64 at', .int .i64 k] w fun e w' => e = .returned (.bool true) ∧ Ext w w' := by
  have H1 := hid (fun wx (hx : Ext w wx) => select_any l k A n cap wx hn (hr.keep hx) hnl hk (hT.keep hx))
  have H5 := hid (fun wx (hx : Ext w wx) => rankBegun_any wx (hT.keep hx))
  have H6 := hid (fun wx (hx : Ext w wx) => count_any l A n cap wx hn (hr.keep hx) hnl)
  rw [hU] at H1
  have HRJ := hid (fun wx (hx : Ext w wx) => rank_all l (j : Int) A n cap wx hn (hr.keep hx) hcap hnl)
  rw [hR] at HRJ
  generalize l.count true = C at *
  have hjI : (j : Int) < (n : Int) := by omega
  have hj0 : (0 : Int) ≤ (j : Int) := by omega
  have ekk : (k != k) = false := by simp
  clear hU hR
  obtain ⟨b1, o1, e1, l1, c1⟩ := hr.bool (by omega)
  subst e1
  have dj : w.cell? ⟨b1, o1 + j, none⟩ = some (.bool true) := by rw [c1 j (by omega)]; rw [List.getElem?_eq_getElem (by omega)] at hjb; rw [Option.some.inj hjb]
  clear c1
  clear hn hr hcap hnl hk hT hjb hj
  go_enter Tryd.func4, Tryd.ntmps4
  go_wp2_with fail
  refine Calls.mono (H1.out _ (ext_refl _)) ?_
  rintro e w1 ⟨rfl, hx⟩
  have X := hid hx
  clear hx
  go_wp2_with fail
  refine Calls.mono (H5.out _ X.out) ?_
  rintro e w2 ⟨rfl, hx⟩
  replace X := hid (X.out.then hx)
  clear hx
  go_wp2_with fail
  refine Calls.mono (H6.out _ X.out) ?_
  rintro e w3 ⟨rfl, hx⟩
  replace X := hid (X.out.then hx)
  clear hx
  go_wp2_with fail
  refine Calls.mono (HRJ.out _ X.out) ?_
  rintro e w4 ⟨rfl, hx⟩
  replace X := hid (X.out.then hx)
  have dj2 := (X.out.cell (p := ⟨b1, o1 + j, none⟩) l1).trans dj
  clear hx
  go_wp2
  go_returns
  exact ⟨rfl, X.out⟩
set_option maxHeartbeats 1600000 in
theorem rsel_found_high (l : List Bool) (at' k : Int) (A : Option Addr) (n cap : Nat) (w : World) (hn : l.length = n) (hr : Rd w A (bls l)) (hcap : n ≤ cap) (hnl : n ≤ 140737488355328) (hk : k ≤ 9223372036854775807) (hT : TabOk w) (hk0 : 0 ≤ k) (j : Nat) (hj : j < n) (hjb : l[j]? = some true) (hU : Mrk.selV l k = ((j : Int), 0)) (hR : Mrk.rankV l (j : Int) = (k, 0)) (hCk : k < ((l.count true : Nat) : Int)) (hat0 : ¬ at' < 0) (hat : (n : Int) ≤ at') :
    Calls Tryd.prog 4 #[.slice A n cap, .int .i64 at', .int .i64 k] w fun e w' => e = .returned (.bool true) ∧ Ext w w' := by
  have H1 := hid (fun wx (hx : Ext w wx) => select_any l k A n cap wx hn (hr.keep hx) hnl hk (hT.keep hx))
  have H5 := hid (fun wx (hx : Ext w wx) => rankBegun_any wx (hT.keep hx))
  have H6 := hid (fun wx (hx : Ext w wx) => count_any l A n cap wx hn (hr.keep hx) hnl)
  rw [hU] at H1
  have HRJ := hid (fun wx (hx : Ext w wx) => rank_all l (j : Int) A n cap wx hn (hr.keep hx) hcap hnl)
  rw [hR] at HRJ
  generalize l.count true = C at *
  have hjI : (j : Int) < (n : Int) := by omega
  have hj0 : (0 : Int) ≤ (j : Int) := by omega
  have ekk : (k != k) = false := by simp
  clear hU hR
  obtain ⟨b1, o1, e1, l1, c1⟩ := hr.bool (by omega)
  subst e1
  have dj : w.cell? ⟨b1, o1 + j, none⟩ = some (.bool true) := by rw [c1 j (by omega)]; rw [List.getElem?_eq_getElem (by omega)] at hjb; rw [Option.some.inj hjb]
  clear c1
  clear hn hr hcap hnl hk hT hjb hj
  go_enter Tryd.func4, Tryd.ntmps4
  go_wp2_with fail
  refine Calls.mono (H1.out _ (ext_refl _)) ?_
  rintro e w1 ⟨rfl, hx⟩
  have X := hid hx
  clear hx
  go_wp2_with fail
  refine Calls.mono (H5.out _ X.out) ?_
  rintro e w2 ⟨rfl, hx⟩
  replace X := hid (X.out.then hx)
  clear hx
  go_wp2_with fail
  refine Calls.mono (H6.out _ X.out) ?_
  rintro e w3 ⟨rfl, hx⟩
  replace X := hid (X.out.then hx)
  clear hx
  go_wp2_with fail
  refine Calls.mono (HRJ.out _ X.out) ?_
  rintro e w4 ⟨rfl, hx⟩
  replace X := hid (X.out.then hx)
  have dj2 := (X.out.cell (p := ⟨b1, o1 + j, none⟩) l1).trans dj
  clear hx
  go_wp2
  go_returns
  exact ⟨rfl, X.out⟩
set_option maxHeartbeats 1600000 in
theorem rsel_found_no (l : List Bool) (at' k : Int) (A : Option Addr) (n cap : Nat) (w : World) (hn : l.length = n) (hr : Rd w A (bls l)) (hcap : n ≤ cap) (hnl : n ≤ 140737488355328) (hk : k ≤ 9223372036854775807) (hT : TabOk w) (hk0 : 0 ≤ k) (j : Nat) (hj : j < n) (hjb : l[j]? = some true) (hU : Mrk.selV l k = ((j : Int), 0)) (hR : Mrk.rankV l (j : Int) = (k, 0)) (hCk : k < ((l.count true : Nat) : Int)) (t : Nat) (hat : at' = (t : Int)) (ht : t < n) (htb : l[t]? = some false) :
    Calls Tryd.prog 4 #[.slice A n cap, .int .i64 at', .int .i64 k] w fun e w' => e = .returned (.bool true) ∧ Ext w w' := by
  have H1 := hid (fun wx (hx : Ext w wx) => select_any l k A n cap wx hn (hr.keep hx) hnl hk (hT.keep hx))
  have H5 := hid (fun wx (hx : Ext w wx) => rankBegun_any wx (hT.keep hx))
  have H6 := hid (fun wx (hx : Ext w wx) => count_any l A n cap wx hn (hr.keep hx) hnl)
  rw [hU] at H1
  have HRJ := hid (fun wx (hx : Ext w wx) => rank_all l (j : Int) A n cap wx hn (hr.keep hx) hcap hnl)
  rw [hR] at HRJ
  generalize l.count true = C at *
  have hjI : (j : Int) < (n : Int) := by omega
  have hj0 : (0 : Int) ≤ (j : Int) := by omega
  have ekk : (k != k) = false := by simp
  clear hU hR
  subst hat
  have htI : (t : Int) < (n : Int) := by omega
  have ht0 : (0 : Int) ≤ (t : Int) := by omega
  obtain ⟨b1, o1, e1, l1, c1⟩ := hr.bool (by omega)
  subst e1
  have dj : w.cell? ⟨b1, o1 + j, none⟩ = some (.bool true) := by rw [c1 j (by omega)]; rw [List.getElem?_eq_getElem (by omega)] at hjb; rw [Option.some.inj hjb]
  have dt : w.cell? ⟨b1, o1 + t, none⟩ = some (.bool false) := by rw [c1 t (by omega)]; rw [List.getElem?_eq_getElem (by omega)] at htb; rw [Option.some.inj htb]
  clear c1
  clear hn hr hcap hnl hk hT hjb hj htb ht
  go_enter Tryd.func4, Tryd.ntmps4
  go_wp2_with fail
  refine Calls.mono (H1.out _ (ext_refl _)) ?_
  rintro e w1 ⟨rfl, hx⟩
  have X := hid hx
  clear hx
  go_wp2_with fail
  refine Calls.mono (H5.out _ X.out) ?_
  rintro e w2 ⟨rfl, hx⟩
  replace X := hid (X.out.then hx)
  clear hx
  go_wp2_with fail
  refine Calls.mono (H6.out _ X.out) ?_
  rintro e w3 ⟨rfl, hx⟩
  replace X := hid (X.out.then hx)
  clear hx
  go_wp2_with fail
  refine Calls.mono (HRJ.out _ X.out) ?_
  rintro e w4 ⟨rfl, hx⟩
  replace X := hid (X.out.then hx)
  have dj2 := (X.out.cell (p := ⟨b1, o1 + j, none⟩) l1).trans dj
  clear hx
  have dt2 := (X.out.cell (p := ⟨b1, o1 + t, none⟩) l1).trans dt
  go_wp2
  go_returns
  exact ⟨rfl, X.out⟩
set_option maxHeartbeats 1600000 in
theorem rsel_found_yes (l : List Bool) (at' k : Int) (A : Option Addr) (n cap : Nat) (w : World) (hn : l.length = n) (hr : Rd w A (bls l)) (hcap : n ≤ cap) (hnl : n ≤ 140737488355328) (hk : k ≤ 9223372036854775807) (hT : TabOk w) (hk0 : 0 ≤ k) (j : Nat) (hj : j < n) (hjb : l[j]? = some true) (hU : Mrk.selV l k = ((j : Int), 0)) (hR : Mrk.rankV l (j : Int) = (k, 0)) (hCk : k < ((l.count true : Nat) : Int)) (t : Nat) (hat : at' = (t : Int)) (ht : t < n) (htb : l[t]? = some true) (c : Nat) (hc : c ≤ 140737488355328) (hRt : Mrk.rankV l (t : Int) = ((c : Int), 0)) (hSt : Mrk.selV l (c : Int) = ((t : Int), 0)) :
    Calls Tryd.prog 4 #[.slice A n cap, .int .i64 at', .int .i64 k] w fun e w' => e = .returned (.bool true) ∧ Ext w w' := by
  have H1 := hid (fun wx (hx : Ext w wx) => select_any l k A n cap wx hn (hr.keep hx) hnl hk (hT.keep hx))
  have H5 := hid (fun wx (hx : Ext w wx) => rankBegun_any wx (hT.keep hx))
  have H6 := hid (fun wx (hx : Ext w wx) => count_any l A n cap wx hn (hr.keep hx) hnl)
  rw [hU] at H1
  have HRJ := hid (fun wx (hx : Ext w wx) => rank_all l (j : Int) A n cap wx hn (hr.keep hx) hcap hnl)
  rw [hR] at HRJ
  generalize l.count true = C at *
  have hjI : (j : Int) < (n : Int) := by omega
  have hj0 : (0 : Int) ≤ (j : Int) := by omega
  have ekk : (k != k) = false := by simp
  clear hU hR
  subst hat
  have htI : (t : Int) < (n : Int) := by omega
  have ht0 : (0 : Int) ≤ (t : Int) := by omega
  have HRT := hid (fun wx (hx : Ext w wx) => rank_all l (t : Int) A n cap wx hn (hr.keep hx) hcap hnl)
  rw [hRt] at HRT
  have HST := hid (fun wx (hx : Ext w wx) => select_any l (c : Int) A n cap wx hn (hr.keep hx) hnl (by omega) (hT.keep hx))
  rw [hSt] at HST
  have ett : ((t : Int) == (t : Int)) = true := by simp
  clear hRt hSt hc
  obtain ⟨b1, o1, e1, l1, c1⟩ := hr.bool (by omega)
  subst e1
  have dj : w.cell? ⟨b1, o1 + j, none⟩ = some (.bool true) := by rw [c1 j (by omega)]; rw [List.getElem?_eq_getElem (by omega)] at hjb; rw [Option.some.inj hjb]
  have dt : w.cell? ⟨b1, o1 + t, none⟩ = some (.bool true) := by rw [c1 t (by omega)]; rw [List.getElem?_eq_getElem (by omega)] at htb; rw [Option.some.inj htb]
  clear c1
  clear hn hr hcap hnl hk hT hjb hj htb ht
  go_enter Tryd.func4, Tryd.ntmps4
  go_wp2_with fail
  refine Calls.mono (H1.out _ (ext_refl _)) ?_
  rintro e w1 ⟨rfl, hx⟩
  have X := hid hx
  clear hx
  go_wp2_with fail
  refine Calls.mono (H5.out _ X.out) ?_
  rintro e w2 ⟨rfl, hx⟩
  replace X := hid (X.out.then hx)
  clear hx
  go_wp2_with fail
  refine Calls.mono (H6.out _ X.out) ?_
  rintro e w3 ⟨rfl, hx⟩
  replace X := hid (X.out.then hx)
  clear hx
  go_wp2_with fail
  refine Calls.mono (HRJ.out _ X.out) ?_
  rintro e w4 ⟨rfl, hx⟩
  replace X := hid (X.out.then hx)
  have dj2 := (X.out.cell (p := ⟨b1, o1 + j, none⟩) l1).trans dj
  clear hx
  have dt2 := (X.out.cell (p := ⟨b1, o1 + t, none⟩) l1).trans dt
  go_wp2_with fail
  refine Calls.mono (HRT.out _ X.out) ?_
  rintro e w5 ⟨rfl, hx⟩
  replace X := hid (X.out.then hx)
  clear hx dt2
  go_wp2_with fail
  refine Calls.mono (HST.out _ X.out) ?_
  rintro e w6 ⟨rfl, hx⟩
  replace X := hid (X.out.then hx)
  clear hx
  go_wp2
  go_returns
  exact ⟨rfl, X.out⟩
theorem rankSelects_any (l : List Bool) (at' k : Int) (A : Option Addr) (n cap : Nat) (w : World) (hn : l.length = n) (hr : Rd w A (bls l)) (hcap : n ≤ cap) (hnl : n ≤ 140737488355328) (hk : k ≤ 9223372036854775807) (hT : TabOk w) :
    Calls Tryd.prog 4 #[.slice A n cap, .int .i64 at', .int .i64 k] w fun e w' => e = .returned (.bool true) ∧ Ext w w' := by
  by_cases hk0 : k < 0
  · rcases Int.lt_or_le at' 0 with h | h
    · exact rsel_neg_low l at' k A n cap w hn hr hcap hnl hk hT hk0 h
    · rcases Int.lt_or_le at' (n : Int) with h2 | h2
      · obtain ⟨t, rfl⟩ := Int.eq_ofNat_of_zero_le h
        have htn : t < n := by omega
        obtain ⟨v, hv⟩ : ∃ v, l[t]? = some v := ⟨_, List.getElem?_eq_getElem (by omega)⟩
        cases v with
        | false => exact rsel_neg_no l _ k A n cap w hn hr hcap hnl hk hT hk0 t rfl htn hv
        | true =>
          have hv2 : l[t]'(by omega) = true := by rw [List.getElem?_eq_getElem (by omega)] at hv; exact Option.some.inj hv
          refine rsel_neg_yes l _ k A n cap w hn hr hcap hnl hk hT hk0 t rfl htn hv ((l.take t).count true) ?_ ?_ ?_
          · have := List.count_le_length (a := true) (l := l.take t); rw [List.length_take] at this; omega
          · unfold Mrk.rankV; rw [if_neg (by omega), Int.toNat_natCast]
          · unfold Mrk.selV; rw [if_neg (by omega), Int.toNat_natCast, Mrk.sel_of l t 0 (by omega) hv2, Nat.zero_add]
      · exact rsel_neg_high l at' k A n cap w hn hr hcap hnl hk hT hk0 (by omega) h2
  · obtain ⟨K, rfl⟩ := Int.eq_ofNat_of_zero_le (show 0 ≤ k by omega)
    have hV : Mrk.selV l (K : Int) = match Mrk.sel l K 0 with | some i => ((i : Int), 0) | none => (0, 5) := by unfold Mrk.selV; rw [if_neg hk0, Int.toNat_natCast]; rfl
    cases hS : Mrk.sel l K 0 with
    | none =>
      rw [hS] at hV
      have hC := Mrk.sel_none_le l K 0 hS
      rcases Int.lt_or_le at' 0 with h | h
      · exact rsel_none_low l at' _ A n cap w hn hr hcap hnl hk hT (by omega) hV (by omega) h
      · rcases Int.lt_or_le at' (n : Int) with h2 | h2
        · obtain ⟨t, rfl⟩ := Int.eq_ofNat_of_zero_le h
          have htn : t < n := by omega
          obtain ⟨v, hv⟩ : ∃ v, l[t]? = some v := ⟨_, List.getElem?_eq_getElem (by omega)⟩
          cases v with
          | false => exact rsel_none_no l _ _ A n cap w hn hr hcap hnl hk hT (by omega) hV (by omega) t rfl htn hv
          | true =>
            have hv2 : l[t]'(by omega) = true := by rw [List.getElem?_eq_getElem (by omega)] at hv; exact Option.some.inj hv
            refine rsel_none_yes l _ _ A n cap w hn hr hcap hnl hk hT (by omega) hV (by omega) t rfl htn hv ((l.take t).count true) ?_ ?_ ?_
            · have := List.count_le_length (a := true) (l := l.take t); rw [List.length_take] at this; omega
            · unfold Mrk.rankV; rw [if_neg (by omega), Int.toNat_natCast]
            · unfold Mrk.selV; rw [if_neg (by omega), Int.toNat_natCast, Mrk.sel_of l t 0 (by omega) hv2, Nat.zero_add]
        · exact rsel_none_high l at' _ A n cap w hn hr hcap hnl hk hT (by omega) hV (by omega) (by omega) h2
    | some j =>
      rw [hS] at hV
      obtain ⟨j', e, hjl, h1, h2, h3⟩ := Mrk.sel_spec l K 0 j hS
      rw [Nat.zero_add] at e
      subst e
      have hR : Mrk.rankV l (j : Int) = ((K : Int), 0) := by unfold Mrk.rankV; rw [if_neg (by omega), Int.toNat_natCast, h2]
      have hjb : l[j]? = some true := by rw [List.getElem?_eq_getElem hjl, h1]
      rcases Int.lt_or_le at' 0 with h | h
      · exact rsel_found_low l at' _ A n cap w hn hr hcap hnl hk hT (by omega) j (by omega) hjb hV hR (by omega) h
      · rcases Int.lt_or_le at' (n : Int) with h2 | h2
        · obtain ⟨t, rfl⟩ := Int.eq_ofNat_of_zero_le h
          have htn : t < n := by omega
          obtain ⟨v, hv⟩ : ∃ v, l[t]? = some v := ⟨_, List.getElem?_eq_getElem (by omega)⟩
          cases v with
          | false => exact rsel_found_no l _ _ A n cap w hn hr hcap hnl hk hT (by omega) j (by omega) hjb hV hR (by omega) t rfl htn hv
          | true =>
            have hv2 : l[t]'(by omega) = true := by rw [List.getElem?_eq_getElem (by omega)] at hv; exact Option.some.inj hv
            refine rsel_found_yes l _ _ A n cap w hn hr hcap hnl hk hT (by omega) j (by omega) hjb hV hR (by omega) t rfl htn hv ((l.take t).count true) ?_ ?_ ?_
            · have := List.count_le_length (a := true) (l := l.take t); rw [List.length_take] at this; omega
            · unfold Mrk.rankV; rw [if_neg (by omega), Int.toNat_natCast]
            · unfold Mrk.selV; rw [if_neg (by omega), Int.toNat_natCast, Mrk.sel_of l t 0 (by omega) hv2, Nat.zero_add]
        · exact rsel_found_high l at' _ A n cap w hn hr hcap hnl hk hT (by omega) j (by omega) hjb hV hR (by omega) (by omega) h2
end Go.Proofs.YtikdmnedbfpkeaaDoor
