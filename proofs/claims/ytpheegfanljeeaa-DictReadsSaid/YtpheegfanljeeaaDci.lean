/- Dict: the law Reads: walk (printed by gen_dci.py). -/
import Derived.Test.YtpheegfanljeeaaDch
namespace Hy.Dct
open Go
theorem txt_bd (b : List T) (c : List Nat) : (txt b c).1.length ≤ 64 ∧ (txt b c).2 ≤ 4 := by
  have h := chk_cases b
  unfold txt
  split
  · exact ⟨by simp, by show chk b ≤ 4; omega⟩
  · split
    · simp
    · split
      · simp only [List.length_map]; omega
      · simp
theorem ple_plc (b : List T) (s : T) : plc b s < ple b s ↔ s ∈ b := by
  rw [plc_eq]; unfold ple
  have key : ∀ b : List T, (b.countP fun x => decide (x < s)) ≤ (b.countP fun x => decide (x ≤ s)) ∧ ((b.countP fun x => decide (x < s)) < (b.countP fun x => decide (x ≤ s)) ↔ s ∈ b) := by
    intro b
    induction b with
    | nil => simp
    | cons y b ih =>
      obtain ⟨h1, h2⟩ := ih
      rw [List.countP_cons, List.countP_cons, List.mem_cons, ← h2]
      rcases tot3 y s with h | h | h
      · have h3 : ¬ s = y := fun e => by subst e; exact lt_irr _ h
        simp only [h, lt_le h, decide_true, if_true, h3, false_or]; omega
      · subst h
        have h3 := List.le_refl y
        simp only [lt_irr y, h3, decide_true, decide_false, if_true, Bool.false_eq_true, if_false, true_or, iff_true]; omega
      · have h3 : ¬ s = y := fun e => by subst e; exact lt_irr _ h
        have h4 : ¬ y ≤ s := List.not_le.2 h
        simp only [lt_asy h, h4, decide_false, Bool.false_eq_true, if_false, h3, false_or]; omega
  exact (key b).2
end Hy.Dct
namespace Go.Proofs.Ytpheegfanljeeaa
open Go.RowKit Hy
set_option maxRecDepth 100000 in
set_option maxHeartbeats 3200000 in
theorem dictReads_walk (b : List (List UInt8)) (c : List Nat) (A C : Option Addr) (n m cap cap2 : Nat) (s lo hi : ByteArray) (w : World) (hn : b.length = n) (hm : c.length = m) (hr : Rd w A (txs b)) (hq : Rd w C (u64s c)) (hnl : n ≤ 140737488355328) (hml : m ≤ 140737488355328) (hc : ∀ x ∈ c, x < 18446744073709551616) (hl : ∀ x ∈ b, x.length ≤ 140737488355328) (hs : s.data.toList.length ≤ 140737488355328) (hlo : lo.data.toList.length ≤ 140737488355328) (hhi : hi.data.toList.length ≤ 140737488355328) :
    Calls Try.prog 9 #[.slice A n cap, .slice C m cap2, .string s, .string lo, .string hi] w fun e w' => e = .returned (.bool true) ∧ Ext w w' := by
  have HT := hid (fun wx (hx : Ext w wx) => dTexts_any b c A C n m cap cap2 wx hn hm (hr.keep hx) (hq.keep hx) hc hnl hml)
  have HU := hid (fun wx (hx : Ext w wx) => textsOf_any b c A C n m cap cap2 wx hn hm (hr.keep hx) (hq.keep hx) hc hnl hml hl)
  have HF := hid (fun wx (hx : Ext w wx) => dFind_any b A n cap s wx hn (hr.keep hx) hnl)
  have HS := hid (fun wx (hx : Ext w wx) => dSpan_any b A n cap lo hi wx hn (hr.keep hx) hnl)
  have HK := hid (fun wx (hx : Ext w wx) => bookCheck_any b A n cap wx hn (hr.keep hx) hnl hl)
  have HB := hid (fun (t : ByteArray) (ht : t.data.toList.length ≤ 140737488355328) (same : Bool) wx (hx : Ext w wx) => below_any b A n cap t.data.toList t (str_self t).symm same wx hn (hr.keep hx) hnl hl ht)
  have hbd := Dct.txt_bd b c
  obtain ⟨⟨R, E⟩, hRE⟩ : ∃ p, Dct.txt b c = p := ⟨_, rfl⟩
  rw [hRE] at HT HU hbd
  simp only at HT HU hbd
  unfold TextsOut at HT HU
  have hEI : (E : Int) ≤ 4 := by omega
  have HRL := hid hbd.1
  have hcc := Dct.chk_cases b
  by_cases h0 : Dct.chk b = 0
  · rw [Dct.fnd_ok h0] at HF
    rw [Dct.spn_ok h0] at HS
    rw [h0] at HF HS HK
    have H1 := hid (HB.out lo hlo false)
    have H2 := hid (HB.out hi hhi true)
    have H3 := hid (HB.out s hs false)
    have H4 := hid (HB.out s hs true)
    rw [Dct.low_false] at H1 H3
    rw [Dct.low_true] at H2 H4
    have hpp := Dct.ple_plc b s.data.toList
    have b1 := Dct.plc_le b lo.data.toList
    have b2 := Dct.ple_le b hi.data.toList
    have b3 := Dct.plc_le b s.data.toList
    have b4 := Dct.ple_le b s.data.toList
    have hmem : decide (s.data.toList ∈ b) = decide (Dct.plc b s.data.toList < Dct.ple b s.data.toList) := by
      rw [Bool.eq_iff_iff, decide_eq_true_eq, decide_eq_true_eq]; exact hpp.symm
    rw [hmem] at HF
    generalize Dct.plc b lo.data.toList = p1 at *
    generalize Dct.ple b hi.data.toList = p2 at *
    generalize Dct.plc b s.data.toList = p3 at *
    generalize Dct.ple b s.data.toList = p4 at *
    have i1 : (p1 : Int) ≤ 140737488355328 := by omega
    have i2 : (p2 : Int) ≤ 140737488355328 := by omega
    have i3 : (p3 : Int) ≤ 140737488355328 := by omega
    have i4 : (p4 : Int) ≤ 140737488355328 := by omega
    have hdq : decide (p3 < p4) = decide ((p3 : Int) < (p4 : Int)) := by simp
    rw [hdq] at HF
    by_cases h12 : p2 < p1
    · have h12I : (p2 : Int) < (p1 : Int) := by omega
      rw [show max p1 p2 = p1 by omega] at HS
      clear hn hm hr hq hnl hml hc hl hs hlo hhi hRE hbd hcc h0 hpp b1 b2 b3 b4 hmem hdq HB h12
      go_enter Try.func9, Try.ntmps9
      go_wp2_with fail
      refine Calls.mono (HT.out _ (ext_refl _)) ?_
      rintro e w1 ⟨B1, c1, rfl, h1, hx⟩
      have Xp := hid hx
      have R1 := hid h1
      clear hx h1
      go_wp2_with fail
      refine Calls.mono (HF.out _ Xp.out) ?_
      rintro e w2 ⟨rfl, hx⟩
      replace Xp := hid (Xp.out.then hx)
      replace R1 := hid (R1.out.keep hx)
      clear hx 
      go_wp2_with fail
      refine Calls.mono (HS.out _ Xp.out) ?_
      rintro e w3 ⟨rfl, hx⟩
      replace Xp := hid (Xp.out.then hx)
      replace R1 := hid (R1.out.keep hx)
      clear hx 
      go_wp2_with fail
      refine Calls.mono (HU.out _ Xp.out) ?_
      rintro e w4 ⟨B2, c2, rfl, h1, hx⟩
      replace Xp := hid (Xp.out.then hx)
      replace R1 := hid (R1.out.keep hx)
      have R2 := hid h1
      clear hx h1
      go_wp2_with fail
      refine Calls.mono (HK.out _ Xp.out) ?_
      rintro e w5 ⟨rfl, hx⟩
      replace Xp := hid (Xp.out.then hx)
      replace R1 := hid (R1.out.keep hx)
      replace R2 := hid (R2.out.keep hx)
      clear hx 
      go_wp2_with fail
      refine Calls.mono (dictBegun_any _) ?_
      rintro e w6 ⟨rfl, hx⟩
      replace Xp := hid (Xp.out.then hx)
      replace R1 := hid (R1.out.keep hx)
      replace R2 := hid (R2.out.keep hx)
      clear hx 
      go_wp2_with fail
      refine Calls.mono (sameTexts_self R _ _ R.length _ _ _ rfl R1.out R2.out (by have := HRL.out; omega)) ?_
      rintro e w7 ⟨rfl, hx⟩
      replace Xp := hid (Xp.out.then hx)
      replace R1 := hid (R1.out.keep hx)
      replace R2 := hid (R2.out.keep hx)
      clear hx 
      go_wp2_with fail
      refine Calls.mono (H1.out _ Xp.out) ?_
      rintro e w8 ⟨rfl, hx⟩
      replace Xp := hid (Xp.out.then hx)
      replace R1 := hid (R1.out.keep hx)
      replace R2 := hid (R2.out.keep hx)
      clear hx 
      go_wp2_with fail
      refine Calls.mono (H2.out _ Xp.out) ?_
      rintro e w9 ⟨rfl, hx⟩
      replace Xp := hid (Xp.out.then hx)
      replace R1 := hid (R1.out.keep hx)
      replace R2 := hid (R2.out.keep hx)
      clear hx 
      go_wp2_with fail
      refine Calls.mono (H3.out _ Xp.out) ?_
      rintro e w10 ⟨rfl, hx⟩
      replace Xp := hid (Xp.out.then hx)
      replace R1 := hid (R1.out.keep hx)
      replace R2 := hid (R2.out.keep hx)
      clear hx 
      go_wp2_with fail
      refine Calls.mono (H4.out _ Xp.out) ?_
      rintro e w11 ⟨rfl, hx⟩
      replace Xp := hid (Xp.out.then hx)
      replace R1 := hid (R1.out.keep hx)
      replace R2 := hid (R2.out.keep hx)
      clear hx 
      go_wp2
      go_returns
      exact ⟨by simp, Xp.out⟩
    · have h12I : ¬ (p2 : Int) < (p1 : Int) := by omega
      rw [show max p1 p2 = p2 by omega] at HS
      clear hn hm hr hq hnl hml hc hl hs hlo hhi hRE hbd hcc h0 hpp b1 b2 b3 b4 hmem hdq HB h12
      go_enter Try.func9, Try.ntmps9
      go_wp2_with fail
      refine Calls.mono (HT.out _ (ext_refl _)) ?_
      rintro e w1 ⟨B1, c1, rfl, h1, hx⟩
      have Xp := hid hx
      have R1 := hid h1
      clear hx h1
      go_wp2_with fail
      refine Calls.mono (HF.out _ Xp.out) ?_
      rintro e w2 ⟨rfl, hx⟩
      replace Xp := hid (Xp.out.then hx)
      replace R1 := hid (R1.out.keep hx)
      clear hx 
      go_wp2_with fail
      refine Calls.mono (HS.out _ Xp.out) ?_
      rintro e w3 ⟨rfl, hx⟩
      replace Xp := hid (Xp.out.then hx)
      replace R1 := hid (R1.out.keep hx)
      clear hx 
      go_wp2_with fail
      refine Calls.mono (HU.out _ Xp.out) ?_
      rintro e w4 ⟨B2, c2, rfl, h1, hx⟩
      replace Xp := hid (Xp.out.then hx)
      replace R1 := hid (R1.out.keep hx)
      have R2 := hid h1
      clear hx h1
      go_wp2_with fail
      refine Calls.mono (HK.out _ Xp.out) ?_
      rintro e w5 ⟨rfl, hx⟩
      replace Xp := hid (Xp.out.then hx)
      replace R1 := hid (R1.out.keep hx)
      replace R2 := hid (R2.out.keep hx)
      clear hx 
      go_wp2_with fail
      refine Calls.mono (dictBegun_any _) ?_
      rintro e w6 ⟨rfl, hx⟩
      replace Xp := hid (Xp.out.then hx)
      replace R1 := hid (R1.out.keep hx)
      replace R2 := hid (R2.out.keep hx)
      clear hx 
      go_wp2_with fail
      refine Calls.mono (sameTexts_self R _ _ R.length _ _ _ rfl R1.out R2.out (by have := HRL.out; omega)) ?_
      rintro e w7 ⟨rfl, hx⟩
      replace Xp := hid (Xp.out.then hx)
      replace R1 := hid (R1.out.keep hx)
      replace R2 := hid (R2.out.keep hx)
      clear hx 
      go_wp2_with fail
      refine Calls.mono (H1.out _ Xp.out) ?_
      rintro e w8 ⟨rfl, hx⟩
      replace Xp := hid (Xp.out.then hx)
      replace R1 := hid (R1.out.keep hx)
      replace R2 := hid (R2.out.keep hx)
      clear hx 
      go_wp2_with fail
      refine Calls.mono (H2.out _ Xp.out) ?_
      rintro e w9 ⟨rfl, hx⟩
      replace Xp := hid (Xp.out.then hx)
      replace R1 := hid (R1.out.keep hx)
      replace R2 := hid (R2.out.keep hx)
      clear hx 
      go_wp2_with fail
      refine Calls.mono (H3.out _ Xp.out) ?_
      rintro e w10 ⟨rfl, hx⟩
      replace Xp := hid (Xp.out.then hx)
      replace R1 := hid (R1.out.keep hx)
      replace R2 := hid (R2.out.keep hx)
      clear hx 
      go_wp2_with fail
      refine Calls.mono (H4.out _ Xp.out) ?_
      rintro e w11 ⟨rfl, hx⟩
      replace Xp := hid (Xp.out.then hx)
      replace R1 := hid (R1.out.keep hx)
      replace R2 := hid (R2.out.keep hx)
      clear hx 
      go_wp2
      go_returns
      exact ⟨by simp, Xp.out⟩
  · rw [Dct.fnd_bad h0] at HF
    rw [Dct.spn_bad h0] at HS
    generalize Dct.chk b = r at *
    have h1 : ((r : Int) != 0) = true := by rw [bne_iff_ne]; omega
    have h2 : ((r : Int) == 0) = false := by rw [beq_eq_false_iff_ne]; omega
    have h3 : ((r : Int) != (r : Int)) = false := by simp
    have hrI : (r : Int) ≤ 4 := by omega
    clear hn hm hr hq hnl hml hc hl hs hlo hhi hRE hbd hcc h0 HB
    go_enter Try.func9, Try.ntmps9
    go_wp2_with fail
    refine Calls.mono (HT.out _ (ext_refl _)) ?_
    rintro e w1 ⟨B1, c1, rfl, h1, hx⟩
    have Xp := hid hx
    have R1 := hid h1
    clear hx h1
    go_wp2_with fail
    refine Calls.mono (HF.out _ Xp.out) ?_
    rintro e w2 ⟨rfl, hx⟩
    replace Xp := hid (Xp.out.then hx)
    replace R1 := hid (R1.out.keep hx)
    clear hx 
    go_wp2_with fail
    refine Calls.mono (HS.out _ Xp.out) ?_
    rintro e w3 ⟨rfl, hx⟩
    replace Xp := hid (Xp.out.then hx)
    replace R1 := hid (R1.out.keep hx)
    clear hx 
    go_wp2_with fail
    refine Calls.mono (HU.out _ Xp.out) ?_
    rintro e w4 ⟨B2, c2, rfl, h1, hx⟩
    replace Xp := hid (Xp.out.then hx)
    replace R1 := hid (R1.out.keep hx)
    have R2 := hid h1
    clear hx h1
    go_wp2_with fail
    refine Calls.mono (HK.out _ Xp.out) ?_
    rintro e w5 ⟨rfl, hx⟩
    replace Xp := hid (Xp.out.then hx)
    replace R1 := hid (R1.out.keep hx)
    replace R2 := hid (R2.out.keep hx)
    clear hx 
    go_wp2_with fail
    refine Calls.mono (dictBegun_any _) ?_
    rintro e w6 ⟨rfl, hx⟩
    replace Xp := hid (Xp.out.then hx)
    replace R1 := hid (R1.out.keep hx)
    replace R2 := hid (R2.out.keep hx)
    clear hx 
    go_wp2_with fail
    refine Calls.mono (sameTexts_self R _ _ R.length _ _ _ rfl R1.out R2.out (by have := HRL.out; omega)) ?_
    rintro e w7 ⟨rfl, hx⟩
    replace Xp := hid (Xp.out.then hx)
    replace R1 := hid (R1.out.keep hx)
    replace R2 := hid (R2.out.keep hx)
    clear hx 
    go_wp2
    go_returns
    exact ⟨rfl, Xp.out⟩
end Go.Proofs.Ytpheegfanljeeaa
