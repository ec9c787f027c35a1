/- rankBegun: the closed test. -/
import Derived.Test.YtikdmnedbfpkeaaDoorRkc
import Derived.Test.YtikdmnedbfpkeaaDoorRkd
import Derived.Test.YtikdmnedbfpkeaaDoorRkg
import Derived.Test.YtikdmnedbfpkeaaDoorRkk
import Derived.Test.YtikdmnedbfpkeaaDoorRkl
import Derived.Test.YtikdmnedbfpkeaaDoorGho
namespace Hy.Mrk
abbrev l0 : List Bool := [true, false, true, true]
abbrev m0 : List Bool := [true, true, false, true]
abbrev a0 : List Bool := [true, false, false, true]
theorem b1 : (l0.take 3).count true = 2 := by decide +kernel
theorem b2 : selV l0 2 = (3, 0) := by decide +kernel
theorem b3 : selV l0 3 = (0, 5) := by decide +kernel
theorem b4 : eachL fAnd [l0, m0] 4 = a0 := by decide +kernel
theorem b5 : (Bits.pk (ones l0) 1) = ([13], 0) := by decide +kernel
theorem b6 : Bits.up [13] 4 1 = [1, 0, 1, 1] := by decide +kernel
theorem b7 : Bits.chk [13] 4 1 = 0 := by decide +kernel
theorem b8 : marks [1, 0, 1, 1] = l0 := by decide +kernel
theorem b9 : l0.count true = 3 := by decide +kernel
end Hy.Mrk
namespace Go.Proofs.YtikdmnedbfpkeaaDoor
open Go.RowKit Hy
theorem marks_any (A : Option Addr) (n c : Nat) (w : World) : Calls Tryd.prog 31 #[.slice A n c] w fun e w' => e = .returned (.slice A n c) ∧ w = w' := by
  go_enter Tryd.func31, Tryd.ntmps31
  go_wp2
  go_returns
  exact ⟨rfl, rfl⟩
theorem rank_a (A : Option Addr) (w : World) (hr : Rd w A (bls Mrk.l0)) :
    Calls Tryd.prog 9 #[.slice A 4 4, .int .i64 3] w fun e w' => e = .returned (.tuple #[.int .i64 2, .int .i64 0]) ∧ Ext w w' := by
  have h := rank_any Mrk.l0 3 A 4 4 w rfl hr (by omega) (by omega) (by omega)
  rw [Mrk.b1] at h; exact h
theorem sel_a (A : Option Addr) (w : World) (hr : Rd w A (bls Mrk.l0)) (hT : TabOk w) :
    Calls Tryd.prog 10 #[.slice A 4 4, .int .i64 2] w fun e w' => e = .returned (.tuple #[.int .i64 3, .int .i64 0]) ∧ Ext w w' := by
  have h := select_any Mrk.l0 2 A 4 4 w rfl hr (by omega) (by omega) hT
  rw [Mrk.b2] at h; exact h
theorem sel_b (A : Option Addr) (w : World) (hr : Rd w A (bls Mrk.l0)) (hT : TabOk w) :
    Calls Tryd.prog 10 #[.slice A 4 4, .int .i64 3] w fun e w' => e = .returned (.tuple #[.int .i64 0, .int .i64 5]) ∧ Ext w w' := by
  have h := select_any Mrk.l0 3 A 4 4 w rfl hr (by omega) (by omega) hT
  rw [Mrk.b3] at h; exact h
theorem and_a (A B : Option Addr) (w : World) (ra : Rd w A (bls Mrk.l0)) (rb : Rd w B (bls Mrk.m0)) :
    Calls Tryd.prog 19 #[.slice A 4 4, .slice B 4 4] w fun e w' => ∃ C c, e = .returned (.tuple #[.slice C 4 c, .int .i64 0]) ∧ Rd w' C (bls Mrk.a0) ∧ Ext w w' := by
  have h := and_ok Mrk.l0 Mrk.m0 A B 4 4 4 w rfl rfl ra rb (by omega)
  rw [Mrk.b4] at h; exact h
theorem bytes_a (A : Option Addr) (w : World) (hr : Rd w A (bls Mrk.l0)) :
    Calls Tryd.prog 16 #[.slice A 4 4] w fun e w' => e = .returned (.tuple #[.string ⟨#[13]⟩, .int .i64 0]) ∧ Ext w w' := by
  have h := bytes_any Mrk.l0 A 4 4 w rfl hr (by omega)
  rw [Mrk.b5] at h; exact h
theorem of_a (w : World) :
    Calls Tryd.prog 17 #[.string ⟨#[13]⟩, .int .i64 4] w fun e w' => ∃ B c, e = .returned (.tuple #[.slice B 4 c, .int .i64 0]) ∧ Rd w' B (bls Mrk.l0) ∧ Ext w w' := by
  have h := of_any ⟨#[13]⟩ 4 w
  rw [show (ByteArray.mk #[13]).data.toList = [13] from rfl, Mrk.b6, Mrk.b7, Mrk.b8] at h
  exact h
theorem count_a (A : Option Addr) (w : World) (hr : Rd w A (bls Mrk.l0)) :
    Calls Tryd.prog 14 #[.slice A 4 4] w fun e w' => e = .returned (.int .i64 3) ∧ Ext w w' := by
  have h := count_any Mrk.l0 A 4 4 w rfl hr (by omega)
  rw [Mrk.b9] at h; exact h
set_option maxHeartbeats 8000000 in
set_option maxRecDepth 100000 in
theorem rankBegun_any (w : World) (hT : TabOk w) : Calls Tryd.prog 13 #[] w fun e w' => e = .returned (.bool true) ∧ Ext w w' := by
  have X := hid (ext_refl w)
  have HT := hid hT
  clear hT
  go_enter Tryd.func13, Tryd.ntmps13
  go_wp2_with fail
  refine Calls.mono (marks_any _ _ _ _) ?_
  rintro e _ ⟨rfl, rfl⟩
  have R0 := hid (rd_lit (w := w) (g := w.heap.size) (C := #[.bool true, .bool false, .bool true, .bool true]) (e := 4) (fz := (0, 0)) (cs := bls Mrk.l0) rfl rfl)
  replace X := hid (Ext.new X.out (.cells #[.bool true, .bool false, .bool true, .bool true] 4))
  go_wp2_with fail
  refine Calls.mono (rank_a _ _ R0.out) ?_
  rintro e w1 ⟨rfl, hx⟩
  replace X := hid (X.out.then hx)
  replace R0 := hid (R0.out.keep hx)
  clear hx
  go_wp2_with fail
  refine Calls.mono (sel_a _ _ R0.out (HT.out.keep X.out)) ?_
  rintro e w2 ⟨rfl, hx⟩
  replace X := hid (X.out.then hx)
  replace R0 := hid (R0.out.keep hx)
  clear hx
  go_wp2_with fail
  refine Calls.mono (sel_b _ _ R0.out (HT.out.keep X.out)) ?_
  rintro e w3 ⟨rfl, hx⟩
  replace X := hid (X.out.then hx)
  replace R0 := hid (R0.out.keep hx)
  clear hx
  go_wp2_with fail
  refine Calls.mono (marks_any _ _ _ _) ?_
  rintro e _ ⟨rfl, rfl⟩
  have RM := hid (rd_lit (w := w3) (g := w3.heap.size) (C := #[.bool true, .bool true, .bool false, .bool true]) (e := 4) (fz := (0, 0)) (cs := bls Mrk.m0) rfl rfl)
  have hx := (ext_refl w3).new (.cells #[.bool true, .bool true, .bool false, .bool true] 4)
  replace X := hid (X.out.then hx)
  replace R0 := hid (R0.out.keep hx)
  clear hx
  go_wp2_with fail
  refine Calls.mono (and_a _ _ _ R0.out RM.out) ?_
  rintro e w4 ⟨C, c, rfl, h1, hx⟩
  replace X := hid (X.out.then hx)
  replace R0 := hid (R0.out.keep hx)
  have RA := hid h1
  clear hx h1 RM
  go_wp2_with fail
  refine Calls.mono (bytes_a _ _ R0.out) ?_
  rintro e w5 ⟨rfl, hx⟩
  replace X := hid (X.out.then hx)
  replace R0 := hid (R0.out.keep hx)
  replace RA := hid (RA.out.keep hx)
  clear hx
  go_wp2_with fail
  refine Calls.mono (of_a _) ?_
  rintro e w6 ⟨M, m, rfl, h1, hx⟩
  replace X := hid (X.out.then hx)
  replace R0 := hid (R0.out.keep hx)
  replace RA := hid (RA.out.keep hx)
  have RM := hid h1
  clear hx h1
  go_wp2_with fail
  refine Calls.mono (marks_any _ _ _ _) ?_
  rintro e _ ⟨rfl, rfl⟩
  have RL := hid (rd_lit (w := w6) (g := w6.heap.size) (C := #[.bool true, .bool false, .bool false, .bool true]) (e := 4) (fz := (0, 0)) (cs := bls Mrk.a0) rfl rfl)
  have hx := (ext_refl w6).new (.cells #[.bool true, .bool false, .bool false, .bool true] 4)
  replace X := hid (X.out.then hx)
  replace R0 := hid (R0.out.keep hx)
  replace RA := hid (RA.out.keep hx)
  replace RM := hid (RM.out.keep hx)
  clear hx
  go_wp2_with fail
  refine Calls.mono (sameMarks_any Mrk.a0 Mrk.a0 _ _ 4 4 _ _ _ rfl rfl RA.out RL.out (by omega)) ?_
  rintro e w7 ⟨rfl, hx⟩
  replace X := hid (X.out.then hx)
  replace R0 := hid (R0.out.keep hx)
  replace RM := hid (RM.out.keep hx)
  clear hx RL RA
  rw [decide_eq_true (rfl : Mrk.a0 = Mrk.a0)]
  go_wp2_with fail
  refine Calls.mono (sameMarks_any Mrk.l0 Mrk.l0 _ _ 4 4 _ _ _ rfl rfl RM.out R0.out (by omega)) ?_
  rintro e w8 ⟨rfl, hx⟩
  replace X := hid (X.out.then hx)
  replace R0 := hid (R0.out.keep hx)
  clear hx RM
  rw [decide_eq_true (rfl : Mrk.l0 = Mrk.l0)]
  go_wp2_with fail
  refine Calls.mono (count_a _ _ R0.out) ?_
  rintro e w9 ⟨rfl, hx⟩
  replace X := hid (X.out.then hx)
  clear hx
  go_wp2
  go_returns
  exact ⟨rfl, X.out⟩
end Go.Proofs.YtikdmnedbfpkeaaDoor
