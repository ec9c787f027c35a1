/- And, Or, Not of marks where the lists are right: walks. -/
import Derived.Test.YtikdmnedbfpkeaaDoorRkf
namespace Hy
open Go Go.RowKit
theorem bls2 (xs : List Bool) (h : xs.length = 2) : ∃ x y, xs = [x, y] := by
  match xs, h with
  | [x, y], _ => exact ⟨x, y, rfl⟩
theorem bls1 (xs : List Bool) (h : xs.length = 1) : ∃ x, xs = [x] := by
  match xs, h with
  | [x], _ => exact ⟨x, rfl⟩
def fAnd (xs : List Bool) : Bool := xs[0]?.getD false && xs[1]?.getD false
def fOr (xs : List Bool) : Bool := xs[0]?.getD false || xs[1]?.getD false
def fNot (xs : List Bool) : Bool := !(xs[0]?.getD false)
end Hy
namespace Go.Proofs.YtikdmnedbfpkeaaDoor
open Go.RowKit Hy
theorem and1_any (xs : List Bool) (B : Option Addr) (c : Nat) (w : World) (h : xs.length = 2) (hr : Rd w B (bls xs)) :
    Calls Tryd.prog 36 #[.slice B 2 c] w fun e w' => e = .returned (.bool (fAnd xs)) ∧ w = w' := by
  obtain ⟨x, y, rfl⟩ := bls2 xs h
  obtain ⟨b, o, rfl, hb, hc⟩ := hr.bool (by simp)
  have d0 := hc 0 (by simp)
  have d1 := hc 1 (by simp)
  rw [Nat.add_zero] at d0
  simp only [List.getElem_cons_zero, List.getElem_cons_succ] at d0 d1
  clear hc hr h
  cases x
  · go_enter Tryd.func36, Tryd.ntmps36
    go_wp2
    go_returns
    exact ⟨rfl, rfl⟩
  · go_enter Tryd.func36, Tryd.ntmps36
    go_wp2
    go_returns
    exact ⟨by simp [fAnd], rfl⟩
theorem or1_any (xs : List Bool) (B : Option Addr) (c : Nat) (w : World) (h : xs.length = 2) (hr : Rd w B (bls xs)) :
    Calls Tryd.prog 37 #[.slice B 2 c] w fun e w' => e = .returned (.bool (fOr xs)) ∧ w = w' := by
  obtain ⟨x, y, rfl⟩ := bls2 xs h
  obtain ⟨b, o, rfl, hb, hc⟩ := hr.bool (by simp)
  have d0 := hc 0 (by simp)
  have d1 := hc 1 (by simp)
  rw [Nat.add_zero] at d0
  simp only [List.getElem_cons_zero, List.getElem_cons_succ] at d0 d1
  clear hc hr h
  cases x
  · go_enter Tryd.func37, Tryd.ntmps37
    go_wp2
    go_returns
    exact ⟨by simp [fOr], rfl⟩
  · go_enter Tryd.func37, Tryd.ntmps37
    go_wp2
    go_returns
    exact ⟨by simp [fOr], rfl⟩
theorem not1_any (xs : List Bool) (B : Option Addr) (c : Nat) (w : World) (h : xs.length = 1) (hr : Rd w B (bls xs)) :
    Calls Tryd.prog 38 #[.slice B 1 c] w fun e w' => e = .returned (.bool (fNot xs)) ∧ w = w' := by
  obtain ⟨x, rfl⟩ := bls1 xs h
  obtain ⟨b, o, rfl, hb, hc⟩ := hr.bool (by simp)
  have d0 := hc 0 (by simp)
  rw [Nat.add_zero] at d0
  simp only [List.getElem_cons_zero] at d0
  clear hc hr h
  go_enter Tryd.func38, Tryd.ntmps38
  go_wp2
  go_returns
  exact ⟨by simp [fNot], rfl⟩
theorem slsN2 (a b : List Bool) (A B : Option Addr) (n ca cb : Nat) (w : World) (t : TypeId) (ha : a.length = n) (hb : b.length = n) (ra : Rd w A (bls a)) (rb : Rd w B (bls b)) :
    SlsN (w.alloc (.cells #[.slice A n ca, .slice B n cb] t)) w.heap.size 0 [a, b] n := by
  refine ⟨by simp [go_sem], fun k hk => ?_⟩
  have hx : Ext w (w.alloc (.cells #[.slice A n ca, .slice B n cb] t)) := (ext_refl w).new _
  match k, hk with
  | 0, _ => exact ⟨ha, A, ca, by simp [go_sem], ra.keep hx⟩
  | 1, _ => exact ⟨hb, B, cb, by simp [go_sem], rb.keep hx⟩
theorem slsN1 (a : List Bool) (A : Option Addr) (n ca : Nat) (w : World) (t : TypeId) (ha : a.length = n) (ra : Rd w A (bls a)) :
    SlsN (w.alloc (.cells #[.slice A n ca] t)) w.heap.size 0 [a] n := by
  refine ⟨by simp [go_sem], fun k hk => ?_⟩
  have hx : Ext w (w.alloc (.cells #[.slice A n ca] t)) := (ext_refl w).new _
  match k, hk with
  | 0, _ => exact ⟨ha, A, ca, by simp [go_sem], ra.keep hx⟩
set_option maxHeartbeats 800000 in
theorem and_ok (a b : List Bool) (A B : Option Addr) (n ca cb : Nat) (w : World) (ha : a.length = n) (hb : b.length = n) (ra : Rd w A (bls a)) (rb : Rd w B (bls b)) (h64 : n ≤ 64) :
    Calls Tryd.prog 19 #[.slice A n ca, .slice B n cb] w fun e w' => ∃ C c, e = .returned (.tuple #[.slice C n c, .int .i64 0]) ∧ Rd w' C (bls (Mrk.eachL fAnd [a, b] n)) ∧ Ext w w' := by
  have HE := hid (each_and fAnd [a, b] n 2 w.heap.size 0 2 _ rfl (by decide) (by decide) h64 (slsN2 a b A B n ca cb w 22 ha hb ra rb) (fun xs B c wx h1 h2 => and1_any xs B c wx h1 h2))
  clear ha hb ra rb
  go_enter Tryd.func19, Tryd.ntmps19
  go_wp2_with fail
  refine Calls.mono HE.out ?_
  rintro e w1 ⟨C, c, rfl, hr, hx⟩
  have HR := hid hr
  have HX := hid hx
  clear hr hx
  go_wp2
  go_returns
  exact ⟨C, c, rfl, HR.out, ((ext_refl w).new _).then HX.out⟩
set_option maxHeartbeats 800000 in
theorem or_ok (a b : List Bool) (A B : Option Addr) (n ca cb : Nat) (w : World) (ha : a.length = n) (hb : b.length = n) (ra : Rd w A (bls a)) (rb : Rd w B (bls b)) (h64 : n ≤ 64) :
    Calls Tryd.prog 20 #[.slice A n ca, .slice B n cb] w fun e w' => ∃ C c, e = .returned (.tuple #[.slice C n c, .int .i64 0]) ∧ Rd w' C (bls (Mrk.eachL fOr [a, b] n)) ∧ Ext w w' := by
  have HE := hid (each_or fOr [a, b] n 2 w.heap.size 0 2 _ rfl (by decide) (by decide) h64 (slsN2 a b A B n ca cb w 22 ha hb ra rb) (fun xs B c wx h1 h2 => or1_any xs B c wx h1 h2))
  clear ha hb ra rb
  go_enter Tryd.func20, Tryd.ntmps20
  go_wp2_with fail
  refine Calls.mono HE.out ?_
  rintro e w1 ⟨C, c, rfl, hr, hx⟩
  have HR := hid hr
  have HX := hid hx
  clear hr hx
  go_wp2
  go_returns
  exact ⟨C, c, rfl, HR.out, ((ext_refl w).new _).then HX.out⟩
set_option maxHeartbeats 800000 in
theorem not_ok (a : List Bool) (A : Option Addr) (n ca : Nat) (w : World) (ha : a.length = n) (ra : Rd w A (bls a)) (h64 : n ≤ 64) :
    Calls Tryd.prog 21 #[.slice A n ca] w fun e w' => ∃ C c, e = .returned (.tuple #[.slice C n c, .int .i64 0]) ∧ Rd w' C (bls (Mrk.eachL fNot [a] n)) ∧ Ext w w' := by
  have HE := hid (each_not fNot [a] n 1 w.heap.size 0 1 _ rfl (by decide) (by decide) h64 (slsN1 a A n ca w 22 ha ra) (fun xs B c wx h1 h2 => not1_any xs B c wx h1 h2))
  clear ha ra
  go_enter Tryd.func21, Tryd.ntmps21
  go_wp2_with fail
  refine Calls.mono HE.out ?_
  rintro e w1 ⟨C, c, rfl, hr, hx⟩
  have HR := hid hr
  have HX := hid hx
  clear hr hx
  go_wp2
  go_returns
  exact ⟨C, c, rfl, HR.out, ((ext_refl w).new _).then HX.out⟩
end Go.Proofs.YtikdmnedbfpkeaaDoor
