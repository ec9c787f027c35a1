/- The law MarksBoole: walk, one theorem a way (printed by gen_boole.py). -/
import Derived.Test.YtikdmnedbfpkeaaDoorRkw
import Derived.Test.YtikdmnedbfpkeaaDoorRkm
namespace Hy.Mrk
open Go Go.RowKit Hy
theorem eachL_zip (f : List Bool → Bool) (a b : List Bool) (h : b.length = a.length) : eachL f [a, b] a.length = List.zipWith (fun x y => f [x, y]) a b := by
  apply List.ext_getElem
  · simp [eachL, h]
  · intro i h1 h2
    have hi : i < a.length := by simpa [eachL] using h1
    simp [eachL, colAt, hi, h]
theorem and_zip (a b : List Bool) (h : b.length = a.length) : eachL fAnd [a, b] a.length = List.zipWith (fun x y => x && y) a b := by rw [eachL_zip _ a b h]; simp [fAnd]
theorem or_zip (a b : List Bool) (h : b.length = a.length) : eachL fOr [a, b] a.length = List.zipWith (fun x y => x || y) a b := by rw [eachL_zip _ a b h]; simp [fOr]
theorem zip_len (f : Bool → Bool → Bool) (a b : List Bool) (h : b.length = a.length) : (List.zipWith f a b).length = a.length := by simp [h]
theorem morgan : ∀ (a b : List Bool), nots (List.zipWith (fun x y => x && y) a b) = List.zipWith (fun x y => x || y) (nots a) (nots b)
  | [], b => by simp [nots]
  | x :: a, [] => by simp [nots]
  | x :: a, y :: b => by
    have := morgan a b
    simp only [nots] at this
    simp [nots, this, Bool.not_and]
theorem incl : ∀ (a b : List Bool), b.length = a.length → (List.zipWith (fun x y => x && y) a b).count true + (List.zipWith (fun x y => x || y) a b).count true = a.count true + b.count true
  | [], b, h => by have := List.eq_nil_of_length_eq_zero (l := b) (by simpa using h); subst this; rfl
  | x :: a, [], h => by simp at h
  | x :: a, y :: b, h => by
    have := incl a b (by simpa using h)
    cases x <;> cases y <;> simp <;> omega
theorem once : ∀ (a : List Bool), a.count true + (nots a).count true = a.length
  | [] => rfl
  | x :: a => by
    have := once a
    simp only [nots] at this
    cases x <;> simp [nots] <;> omega
end Hy.Mrk
namespace Go.Proofs.YtikdmnedbfpkeaaDoor
open Go.RowKit Hy
set_option maxHeartbeats 1600000 in
theorem marksBoole_bad (a b : List Bool) (A B : Option Addr) (n m ca cb : Nat) (w : World) (hn : a.length = n) (hm : b.length = m) (ra : Rd w A (bls a)) (rb : Rd w B (bls b)) (hT : TabOk w) (er : Int) (h0 : er ≠ 0) (h1 : Mrk.bothV fAnd a b = ([], er)) (h2 : Mrk.bothV fOr a b = ([], er)) :
    Calls Tryd.prog 8 #[.slice A n ca, .slice B m cb] w fun e w' => e = .returned (.bool true) ∧ Ext w w' := by
  have F1 := hid (and_all a b A B n m ca cb w hn hm ra rb)
  have F2 := hid (fun wx (hx : Ext w wx) => or_all a b A B n m ca cb wx hn hm (ra.keep hx) (rb.keep hx))
  have F3 := hid (fun wx (hx : Ext w wx) => not_all a A n ca wx hn (ra.keep hx))
  have F4 := hid (fun wx (hx : Ext w wx) => not_all b B m cb wx hm (rb.keep hx))
  have F5 := hid (fun wx (hx : Ext w wx) => rankBegun_any wx (hT.keep hx))
  rw [h1] at F1
  rw [h2] at F2
  generalize Mrk.notV a = V3 at *
  generalize Mrk.notV b = V4 at *
  obtain ⟨P3, e3⟩ := V3
  obtain ⟨P4, e4⟩ := V4
  have b1 : (er != er) = false := by simp
  have b2 : (er != 0) = true := by rw [bne_iff_ne]; exact h0
  have b3 : (er == 0) = false := by rw [beq_eq_false_iff_ne]; exact h0
  clear hn hm ra rb hT h0 h1 h2
  go_enter Tryd.func8, Tryd.ntmps8
  go_wp2_with fail
  refine Calls.mono (F1.out) ?_
  rintro e w1 ⟨C1, c1, rfl, -, hx⟩
  have Xp := hid hx
  clear hx 
  go_wp2_with fail
  refine Calls.mono (F2.out _ Xp.out) ?_
  rintro e w2 ⟨C2, c2, rfl, -, hx⟩
  replace Xp := hid (Xp.out.then hx)
  clear hx 
  go_wp2_with fail
  refine Calls.mono (F3.out _ Xp.out) ?_
  rintro e w3 ⟨C3, c3, rfl, -, hx⟩
  replace Xp := hid (Xp.out.then hx)
  clear hx 
  go_wp2_with fail
  refine Calls.mono (F4.out _ Xp.out) ?_
  rintro e w4 ⟨C4, c4, rfl, -, hx⟩
  replace Xp := hid (Xp.out.then hx)
  clear hx 
  go_wp2_with fail
  refine Calls.mono (F5.out _ Xp.out) ?_
  rintro e w5 ⟨rfl, hx⟩
  replace Xp := hid (Xp.out.then hx)
  clear hx 
  go_wp2
  go_returns
  exact ⟨rfl, Xp.out⟩
set_option maxHeartbeats 3200000 in
theorem marksBoole_ok (a b : List Bool) (A B : Option Addr) (n m ca cb : Nat) (w : World) (hn : a.length = n) (hm : b.length = m) (ra : Rd w A (bls a)) (rb : Rd w B (bls b)) (hT : TabOk w) (h64 : n ≤ 64) (he : m = n) :
    Calls Tryd.prog 8 #[.slice A n ca, .slice B m cb] w fun e w' => e = .returned (.bool true) ∧ Ext w w' := by
  subst he
  have hba : b.length = a.length := hm.trans hn.symm
  obtain ⟨x, hx⟩ : ∃ x, x = List.zipWith (fun x y => x && y) a b := ⟨_, rfl⟩
  obtain ⟨y, hy⟩ : ∃ y, y = List.zipWith (fun x y => x || y) a b := ⟨_, rfl⟩
  have lx : x.length = m := by rw [hx, Mrk.zip_len _ _ _ hba, hn]
  have ly : y.length = m := by rw [hy, Mrk.zip_len _ _ _ hba, hn]
  have lp : (Mrk.nots a).length = m := by rw [Mrk.nots_len, hn]
  have lq : (Mrk.nots b).length = m := by rw [Mrk.nots_len, hm]
  have lz : (Mrk.nots x).length = m := by rw [Mrk.nots_len, lx]
  have V1 : Mrk.bothV fAnd a b = (x, 0) := by rw [Mrk.bothV_ok _ a b (by omega) hba, Mrk.and_zip a b hba, hx]
  have V2 : Mrk.bothV fOr a b = (y, 0) := by rw [Mrk.bothV_ok _ a b (by omega) hba, Mrk.or_zip a b hba, hy]
  have V3 : ∀ l : List Bool, l.length = m → Mrk.notV l = (Mrk.nots l, 0) := fun l h => by unfold Mrk.notV; rw [if_neg (by omega)]
  have V4 : Mrk.bothV fOr (Mrk.nots a) (Mrk.nots b) = (Mrk.nots x, 0) := by rw [Mrk.bothV_ok _ _ _ (by omega) (lq.trans lp.symm), Mrk.or_zip _ _ (lq.trans lp.symm), hx, Mrk.morgan]
  have K1 : x.count true + y.count true = a.count true + b.count true := by rw [hx, hy]; exact Mrk.incl a b hba
  have K2 : a.count true + (Mrk.nots a).count true = m := by rw [Mrk.once, hn]
  have F1 := hid (and_all a b A B m m ca cb w hn hm ra rb)
  have F2 := hid (fun wx (hx : Ext w wx) => or_all a b A B m m ca cb wx hn hm (ra.keep hx) (rb.keep hx))
  have F3 := hid (fun wx (hx : Ext w wx) => not_all a A m ca wx hn (ra.keep hx))
  have F4 := hid (fun wx (hx : Ext w wx) => not_all b B m cb wx hm (rb.keep hx))
  have F5 := hid (fun wx (hx : Ext w wx) => rankBegun_any wx (hT.keep hx))
  have F6 := hid (fun wx C c (h : Rd wx C (bls x)) => not_all x C m c wx lx h)
  have F7 := hid (fun wx C D c d (h : Rd wx C (bls (Mrk.nots a))) (h' : Rd wx D (bls (Mrk.nots b))) => or_all (Mrk.nots a) (Mrk.nots b) C D m m c d wx lp lq h h')
  have F8 := hid (fun wx C D c d (h : Rd wx C (bls (Mrk.nots x))) (h' : Rd wx D (bls (Mrk.nots x))) => sameMarks_any (Mrk.nots x) (Mrk.nots x) C D m m c d wx lz lz h h' (by omega))
  have G1 := hid (fun wx C c (h : Rd wx C (bls x)) => count_any x C m c wx lx h (by omega))
  have G2 := hid (fun wx C c (h : Rd wx C (bls y)) => count_any y C m c wx ly h (by omega))
  have G3 := hid (fun wx C c (h : Rd wx C (bls a)) => count_any a C m c wx hn h (by omega))
  have G4 := hid (fun wx C c (h : Rd wx C (bls b)) => count_any b C m c wx hm h (by omega))
  have G5 := hid (fun wx C c (h : Rd wx C (bls (Mrk.nots a))) => count_any (Mrk.nots a) C m c wx lp h (by omega))
  have R1 := hid (fun wx (hx : Ext w wx) => ra.keep hx)
  have R2 := hid (fun wx (hx : Ext w wx) => rb.keep hx)
  rw [V1] at F1
  rw [V2] at F2
  rw [V3 a hn] at F3
  rw [V3 b hm] at F4
  rw [V3 x lx] at F6
  rw [V4] at F7
  unfold Mrk.Out at F1 F2 F3 F4 F6 F7
  simp only [lx, ly, lp, lq, lz] at F1 F2 F3 F4 F6 F7
  have dz : decide (Mrk.nots x = Mrk.nots x) = true := by simp
  rw [dz] at F8
  generalize Mrk.nots a = p at *
  generalize Mrk.nots b = q at *
  generalize Mrk.nots x = z at *
  have z1 : x.count true ≤ 64 := by have := List.count_le_length (a := true) (l := x); omega
  have z2 : y.count true ≤ 64 := by have := List.count_le_length (a := true) (l := y); omega
  have z3 : a.count true ≤ 64 := by have := List.count_le_length (a := true) (l := a); omega
  have z4 : b.count true ≤ 64 := by have := List.count_le_length (a := true) (l := b); omega
  have z5 : p.count true ≤ 64 := by have := List.count_le_length (a := true) (l := p); omega
  generalize x.count true = cx at *
  generalize y.count true = cy at *
  generalize a.count true = cka at *
  generalize b.count true = ckb at *
  generalize p.count true = cp at *
  have b1 : (((cx : Int) + (cy : Int)) == ((cka : Int) + (ckb : Int))) = true := by rw [beq_iff_eq]; omega
  have b2 : (((cka : Int) + (cp : Int)) == (m : Int)) = true := by rw [beq_iff_eq]; omega
  have icx : (cx : Int) ≤ 64 := by omega
  have icy : (cy : Int) ≤ 64 := by omega
  have icka : (cka : Int) ≤ 64 := by omega
  have ickb : (ckb : Int) ≤ 64 := by omega
  have icp : (cp : Int) ≤ 64 := by omega
  clear hx hy V1 V2 V3 V4 K1 K2 z1 z2 z3 z4 z5 hn hm ra rb hT lx ly lp lq lz hba h64 dz
  go_enter Tryd.func8, Tryd.ntmps8
  go_wp2_with fail
  refine Calls.mono (F1.out) ?_
  rintro e w1 ⟨C1, c1, rfl, h1, hx⟩
  have Xp := hid hx
  have Q1 := hid h1
  clear hx h1
  go_wp2_with fail
  refine Calls.mono (F2.out _ Xp.out) ?_
  rintro e w2 ⟨C2, c2, rfl, h1, hx⟩
  replace Xp := hid (Xp.out.then hx)
  replace Q1 := hid (Q1.out.keep hx)
  have Q2 := hid h1
  clear hx h1
  go_wp2_with fail
  refine Calls.mono (F3.out _ Xp.out) ?_
  rintro e w3 ⟨C3, c3, rfl, h1, hx⟩
  replace Xp := hid (Xp.out.then hx)
  replace Q1 := hid (Q1.out.keep hx)
  replace Q2 := hid (Q2.out.keep hx)
  have Q3 := hid h1
  clear hx h1
  go_wp2_with fail
  refine Calls.mono (F4.out _ Xp.out) ?_
  rintro e w4 ⟨C4, c4, rfl, h1, hx⟩
  replace Xp := hid (Xp.out.then hx)
  replace Q1 := hid (Q1.out.keep hx)
  replace Q2 := hid (Q2.out.keep hx)
  replace Q3 := hid (Q3.out.keep hx)
  have Q4 := hid h1
  clear hx h1
  go_wp2_with fail
  refine Calls.mono (F5.out _ Xp.out) ?_
  rintro e w5 ⟨rfl, hx⟩
  replace Xp := hid (Xp.out.then hx)
  replace Q1 := hid (Q1.out.keep hx)
  replace Q2 := hid (Q2.out.keep hx)
  replace Q3 := hid (Q3.out.keep hx)
  replace Q4 := hid (Q4.out.keep hx)
  clear hx 
  go_wp2_with fail
  refine Calls.mono (F6.out _ _ _ Q1.out) ?_
  rintro e w6 ⟨C5, c5, rfl, h1, hx⟩
  replace Xp := hid (Xp.out.then hx)
  replace Q1 := hid (Q1.out.keep hx)
  replace Q2 := hid (Q2.out.keep hx)
  replace Q3 := hid (Q3.out.keep hx)
  replace Q4 := hid (Q4.out.keep hx)
  have Q5 := hid h1
  clear hx h1
  go_wp2_with fail
  refine Calls.mono (F7.out _ _ _ _ _ Q3.out Q4.out) ?_
  rintro e w7 ⟨C6, c6, rfl, h1, hx⟩
  replace Xp := hid (Xp.out.then hx)
  replace Q1 := hid (Q1.out.keep hx)
  replace Q2 := hid (Q2.out.keep hx)
  replace Q3 := hid (Q3.out.keep hx)
  replace Q4 := hid (Q4.out.keep hx)
  replace Q5 := hid (Q5.out.keep hx)
  have Q6 := hid h1
  clear hx h1
  go_wp2_with fail
  refine Calls.mono (F8.out _ _ _ _ _ Q5.out Q6.out) ?_
  rintro e w8 ⟨rfl, hx⟩
  replace Xp := hid (Xp.out.then hx)
  replace Q1 := hid (Q1.out.keep hx)
  replace Q2 := hid (Q2.out.keep hx)
  replace Q3 := hid (Q3.out.keep hx)
  replace Q4 := hid (Q4.out.keep hx)
  replace Q5 := hid (Q5.out.keep hx)
  replace Q6 := hid (Q6.out.keep hx)
  clear hx 
  go_wp2_with fail
  refine Calls.mono (G1.out _ _ _ Q1.out) ?_
  rintro e w9 ⟨rfl, hx⟩
  replace Xp := hid (Xp.out.then hx)
  replace Q1 := hid (Q1.out.keep hx)
  replace Q2 := hid (Q2.out.keep hx)
  replace Q3 := hid (Q3.out.keep hx)
  replace Q4 := hid (Q4.out.keep hx)
  replace Q5 := hid (Q5.out.keep hx)
  replace Q6 := hid (Q6.out.keep hx)
  clear hx 
  go_wp2_with fail
  refine Calls.mono (G2.out _ _ _ Q2.out) ?_
  rintro e w10 ⟨rfl, hx⟩
  replace Xp := hid (Xp.out.then hx)
  replace Q1 := hid (Q1.out.keep hx)
  replace Q2 := hid (Q2.out.keep hx)
  replace Q3 := hid (Q3.out.keep hx)
  replace Q4 := hid (Q4.out.keep hx)
  replace Q5 := hid (Q5.out.keep hx)
  replace Q6 := hid (Q6.out.keep hx)
  clear hx 
  go_wp2_with fail
  refine Calls.mono (G3.out _ _ _ (R1.out _ Xp.out)) ?_
  rintro e w11 ⟨rfl, hx⟩
  replace Xp := hid (Xp.out.then hx)
  replace Q1 := hid (Q1.out.keep hx)
  replace Q2 := hid (Q2.out.keep hx)
  replace Q3 := hid (Q3.out.keep hx)
  replace Q4 := hid (Q4.out.keep hx)
  replace Q5 := hid (Q5.out.keep hx)
  replace Q6 := hid (Q6.out.keep hx)
  clear hx 
  go_wp2_with fail
  refine Calls.mono (G4.out _ _ _ (R2.out _ Xp.out)) ?_
  rintro e w12 ⟨rfl, hx⟩
  replace Xp := hid (Xp.out.then hx)
  replace Q1 := hid (Q1.out.keep hx)
  replace Q2 := hid (Q2.out.keep hx)
  replace Q3 := hid (Q3.out.keep hx)
  replace Q4 := hid (Q4.out.keep hx)
  replace Q5 := hid (Q5.out.keep hx)
  replace Q6 := hid (Q6.out.keep hx)
  clear hx 
  go_wp2_with fail
  refine Calls.mono (G3.out _ _ _ (R1.out _ Xp.out)) ?_
  rintro e w13 ⟨rfl, hx⟩
  replace Xp := hid (Xp.out.then hx)
  replace Q1 := hid (Q1.out.keep hx)
  replace Q2 := hid (Q2.out.keep hx)
  replace Q3 := hid (Q3.out.keep hx)
  replace Q4 := hid (Q4.out.keep hx)
  replace Q5 := hid (Q5.out.keep hx)
  replace Q6 := hid (Q6.out.keep hx)
  clear hx 
  go_wp2_with fail
  refine Calls.mono (G5.out _ _ _ Q3.out) ?_
  rintro e w14 ⟨rfl, hx⟩
  replace Xp := hid (Xp.out.then hx)
  replace Q1 := hid (Q1.out.keep hx)
  replace Q2 := hid (Q2.out.keep hx)
  replace Q3 := hid (Q3.out.keep hx)
  replace Q4 := hid (Q4.out.keep hx)
  replace Q5 := hid (Q5.out.keep hx)
  replace Q6 := hid (Q6.out.keep hx)
  clear hx 
  go_wp2
  go_returns
  exact ⟨rfl, Xp.out⟩
theorem marksBoole_any (a b : List Bool) (A B : Option Addr) (n m ca cb : Nat) (w : World) (hn : a.length = n) (hm : b.length = m) (ra : Rd w A (bls a)) (rb : Rd w B (bls b)) (hT : TabOk w) :
    Calls Tryd.prog 8 #[.slice A n ca, .slice B m cb] w fun e w' => e = .returned (.bool true) ∧ Ext w w' := by
  by_cases h1 : 64 < a.length ∨ 64 < b.length
  · exact marksBoole_bad a b A B n m ca cb w hn hm ra rb hT 2 (by decide) (Mrk.bothV_many _ a b h1) (Mrk.bothV_many _ a b h1)
  · by_cases h2 : a.length = b.length
    · exact marksBoole_ok a b A B n m ca cb w hn hm ra rb hT (by omega) (by omega)
    · exact marksBoole_bad a b A B n m ca cb w hn hm ra rb hT 1 (by decide) (Mrk.bothV_form _ a b (by omega) (by omega) h2) (Mrk.bothV_form _ a b (by omega) (by omega) h2)
end Go.Proofs.YtikdmnedbfpkeaaDoor
