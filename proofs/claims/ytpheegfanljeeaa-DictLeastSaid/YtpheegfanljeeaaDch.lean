/- Dict: the laws Tells, Back: walks (printed by gen_dch.py). -/
import Derived.Test.YtpheegfanljeeaaDcg
namespace Hy
open Go Go.RowKit
theorem rd_txs_none {w : World} {A : Option Addr} {l : List (List UInt8)} (h : Rd w A (txs l)) (hA : A = none) : l.length = 0 := by
  rcases Nat.eq_zero_or_pos l.length with h0 | h0
  · exact h0
  · obtain ⟨b, o, e, _⟩ := h (by rw [txs_len]; exact h0)
    rw [hA] at e; cases e
end Hy
namespace Go.Proofs.Ytpheegfanljeeaa
open Go.RowKit Hy
set_option maxRecDepth 100000 in
set_option maxHeartbeats 1600000 in
theorem dictTells_walk (l k : List (List UInt8)) (A B : Option Addr) (n m cap cap2 : Nat) (w : World) (hn : l.length = n) (hm : k.length = m) (hr : Rd w A (txs l)) (hq : Rd w B (txs k)) (hnl : n ≤ 1048576) (hml : m ≤ 1048576) (hl : ∀ x ∈ l, x.length ≤ 1048576) (hk : ∀ x ∈ k, x.length ≤ 1048576) :
    Calls Try.prog 8 #[.slice A n cap, .slice B m cap2] w fun e w' => e = .returned (.bool true) ∧ Ext w w' := by
  have HOF := hid (fun wx (hx : Ext w wx) => dOf_any l A n cap wx hn (hr.keep hx) (fun h => by have := rd_txs_none hr h; omega) (by omega))
  have HBO := hid (fun wx (hx : Ext w wx) => bookOf_any l A n cap wx hn (hr.keep hx) hnl (fun x hx => by have := hl x hx; omega))
  have HMT := hid (fun wx (hx : Ext w wx) => manyTexts_any l A n cap wx hn (hr.keep hx) (by omega))
  rw [← hn] at HMT
  rw [← Dct.mny_eq] at HMT
  have HCK := hid (fun wx (hx : Ext w wx) => dCheck_any k B m cap2 wx hm (hq.keep hx) (by omega))
  have HBC := hid (fun wx (hx : Ext w wx) => bookCheck_any k B m cap2 wx hm (hq.keep hx) (by omega) (fun x hx => by have := hk x hx; omega))
  have hcc := Dct.chk_cases k
  have hck : (Dct.chk k : Int) ≤ 4 := by omega
  generalize Dct.chk k = ck at *
  have hbl := Dct.bk_len l
  have hcl := Dct.cds_len l
  rw [hn] at HMT hbl hcl
  by_cases hm2 : Dct.mny l = true
  · rw [Dct.of_many hm2] at HOF
    rw [hm2] at HMT
    generalize Dct.bk l = bk at *
    generalize Dct.cds l = cd at *
    clear hn hm hr hq hnl hml hl hk hm2 hcc hbl hcl
    go_enter Try.func8, Try.ntmps8
    go_wp2_with fail
    refine Calls.mono (HOF.out _ (ext_refl _)) ?_
    rintro e w1 ⟨B1, c1, C1, d1, rfl, h1, h2, hx⟩
    have Xp := hid hx
    have R1 := hid h1
    have R2 := hid h2
    clear hx h1 h2
    go_wp2_with fail
    refine Calls.mono (HBO.out _ Xp.out) ?_
    rintro e w2 ⟨B2, c2, C2, d2, rfl, _, _, hx⟩
    replace Xp := hid (Xp.out.then hx)
    replace R1 := hid (R1.out.keep hx)
    replace R2 := hid (R2.out.keep hx)
    clear hx 
    go_wp2_with fail
    refine Calls.mono (HMT.out _ Xp.out) ?_
    rintro e _ ⟨rfl, rfl⟩
    go_wp2_with fail
    refine Calls.mono (dictBegun_any _) ?_
    rintro e w4 ⟨rfl, hx⟩
    replace Xp := hid (Xp.out.then hx)
    replace R1 := hid (R1.out.keep hx)
    replace R2 := hid (R2.out.keep hx)
    clear hx 
    go_wp2_with fail
    refine Calls.mono (sameTexts_self [] _ _ 0 _ _ _ rfl R1.out (fun h => by simp [txs] at h) (by decide)) ?_
    rintro e w5 ⟨rfl, hx⟩
    replace Xp := hid (Xp.out.then hx)
    replace R1 := hid (R1.out.keep hx)
    replace R2 := hid (R2.out.keep hx)
    clear hx 
    go_wp2_with fail
    refine Calls.mono (sameNums_self [] _ _ 0 _ _ _ rfl R2.out (fun h => by simp [u64s] at h) (by decide)) ?_
    rintro e w6 ⟨rfl, hx⟩
    replace Xp := hid (Xp.out.then hx)
    replace R1 := hid (R1.out.keep hx)
    replace R2 := hid (R2.out.keep hx)
    clear hx 
    go_wp2_with fail
    refine Calls.mono (HCK.out _ Xp.out) ?_
    rintro e w7 ⟨rfl, hx⟩
    replace Xp := hid (Xp.out.then hx)
    replace R1 := hid (R1.out.keep hx)
    replace R2 := hid (R2.out.keep hx)
    clear hx 
    go_wp2_with fail
    refine Calls.mono (HBC.out _ Xp.out) ?_
    rintro e w8 ⟨rfl, hx⟩
    replace Xp := hid (Xp.out.then hx)
    replace R1 := hid (R1.out.keep hx)
    replace R2 := hid (R2.out.keep hx)
    clear hx 
    go_wp2
    go_returns
    exact ⟨by simp, Xp.out⟩
  · rw [Bool.not_eq_true] at hm2
    rw [Dct.of_ok hm2] at HOF
    rw [hm2] at HMT
    have HL1 := hid (show (Dct.bk l).length ≤ 1048576 by omega)
    have HL2 := hid (show (Dct.cds l).length ≤ 1048576 by omega)
    generalize Dct.bk l = bk at *
    generalize Dct.cds l = cd at *
    have hb1 : (bk.length : Int) ≤ 1048576 := by have := HL1.out; omega
    have hc1 : (cd.length : Int) ≤ 1048576 := by have := HL2.out; omega
    clear hn hm hr hq hnl hml hl hk hm2 hcc hbl hcl
    go_enter Try.func8, Try.ntmps8
    go_wp2_with fail
    refine Calls.mono (HOF.out _ (ext_refl _)) ?_
    rintro e w1 ⟨B1, c1, C1, d1, rfl, h1, h2, hx⟩
    have Xp := hid hx
    have R1 := hid h1
    have R2 := hid h2
    clear hx h1 h2
    go_wp2_with fail
    refine Calls.mono (HBO.out _ Xp.out) ?_
    rintro e w2 ⟨B2, c2, C2, d2, rfl, h1, h2, hx⟩
    replace Xp := hid (Xp.out.then hx)
    replace R1 := hid (R1.out.keep hx)
    replace R2 := hid (R2.out.keep hx)
    have R3 := hid h1
    have R4 := hid h2
    clear hx h1 h2
    go_wp2_with fail
    refine Calls.mono (HMT.out _ Xp.out) ?_
    rintro e _ ⟨rfl, rfl⟩
    go_wp2_with fail
    refine Calls.mono (dictBegun_any _) ?_
    rintro e w4 ⟨rfl, hx⟩
    replace Xp := hid (Xp.out.then hx)
    replace R1 := hid (R1.out.keep hx)
    replace R2 := hid (R2.out.keep hx)
    replace R3 := hid (R3.out.keep hx)
    replace R4 := hid (R4.out.keep hx)
    clear hx 
    go_wp2_with fail
    refine Calls.mono (sameTexts_self bk _ _ bk.length _ _ _ rfl R1.out R3.out (by have := HL1.out; omega)) ?_
    rintro e w5 ⟨rfl, hx⟩
    replace Xp := hid (Xp.out.then hx)
    replace R1 := hid (R1.out.keep hx)
    replace R2 := hid (R2.out.keep hx)
    replace R3 := hid (R3.out.keep hx)
    replace R4 := hid (R4.out.keep hx)
    clear hx 
    go_wp2_with fail
    refine Calls.mono (sameNums_self cd _ _ cd.length _ _ _ rfl R2.out R4.out (by have := HL2.out; omega)) ?_
    rintro e w6 ⟨rfl, hx⟩
    replace Xp := hid (Xp.out.then hx)
    replace R1 := hid (R1.out.keep hx)
    replace R2 := hid (R2.out.keep hx)
    replace R3 := hid (R3.out.keep hx)
    replace R4 := hid (R4.out.keep hx)
    clear hx 
    go_wp2_with fail
    refine Calls.mono (HCK.out _ Xp.out) ?_
    rintro e w7 ⟨rfl, hx⟩
    replace Xp := hid (Xp.out.then hx)
    replace R1 := hid (R1.out.keep hx)
    replace R2 := hid (R2.out.keep hx)
    replace R3 := hid (R3.out.keep hx)
    replace R4 := hid (R4.out.keep hx)
    clear hx 
    go_wp2_with fail
    refine Calls.mono (HBC.out _ Xp.out) ?_
    rintro e w8 ⟨rfl, hx⟩
    replace Xp := hid (Xp.out.then hx)
    replace R1 := hid (R1.out.keep hx)
    replace R2 := hid (R2.out.keep hx)
    replace R3 := hid (R3.out.keep hx)
    replace R4 := hid (R4.out.keep hx)
    clear hx 
    go_wp2
    go_returns
    exact ⟨by simp, Xp.out⟩
set_option maxRecDepth 100000 in
set_option maxHeartbeats 1600000 in
theorem dictBack_walk (l : List (List UInt8)) (A : Option Addr) (n cap : Nat) (w : World) (hn : l.length = n) (hr : Rd w A (txs l)) (hnl : n ≤ 140737488355328) :
    Calls Try.prog 10 #[.slice A n cap] w fun e w' => e = .returned (.bool true) ∧ Ext w w' := by
  have HOF := hid (fun wx (hx : Ext w wx) => dOf_any l A n cap wx hn (hr.keep hx) (fun h => by have := rd_txs_none hr h; omega) hnl)
  have hnI : (n : Int) ≤ 140737488355328 := by omega
  by_cases hm2 : Dct.mny l = true
  · rw [Dct.of_many hm2] at HOF
    clear hn hr hnl hm2
    go_enter Try.func10, Try.ntmps10
    go_wp2_with fail
    refine Calls.mono (HOF.out _ (ext_refl _)) ?_
    rintro e w1 ⟨B1, c1, C1, d1, rfl, _, _, hx⟩
    have Xp := hid hx
    clear hx 
    go_wp2_with fail
    refine Calls.mono (dictBegun_any _) ?_
    rintro e w2 ⟨rfl, hx⟩
    replace Xp := hid (Xp.out.then hx)
    clear hx 
    go_wp2
    go_returns
    exact ⟨rfl, Xp.out⟩
  · rw [Bool.not_eq_true] at hm2
    rw [Dct.of_ok hm2] at HOF
    have h64 := (Dct.mny_false hm2).1
    have hbl := Dct.bk_len l
    have hcl := Dct.cds_len l
    have hcd := Dct.cds_lt l
    have HTX := hid (fun B cb C cc wx (h1 : Rd wx B (txs (Dct.bk l))) (h2 : Rd wx C (u64s (Dct.cds l))) => by
      have := dTexts_any (Dct.bk l) (Dct.cds l) B C (Dct.bk l).length (Dct.cds l).length cb cc wx rfl rfl h1 h2 (fun x hx => by have := hcd x hx; omega) (by omega) (by omega)
      rw [Dct.txt_back l hm2] at this; exact this)
    unfold TextsOut at HTX
    rw [hn] at HTX
    have HN := hid hn
    have HR := hid hr
    have HN64 := hid (show n ≤ 64 by omega)
    have hb1 : ((Dct.bk l).length : Int) ≤ 64 := by omega
    have hc1 : ((Dct.cds l).length : Int) ≤ 64 := by omega
    generalize Dct.bk l = bk at *
    generalize Dct.cds l = cd at *
    clear hn hr hnl hm2 h64 hbl hcl hcd
    go_enter Try.func10, Try.ntmps10
    go_wp2_with fail
    refine Calls.mono (HOF.out _ (ext_refl _)) ?_
    rintro e w1 ⟨B1, c1, C1, d1, rfl, h1, h2, hx⟩
    have Xp := hid hx
    have R1 := hid h1
    have R2 := hid h2
    clear hx h1 h2
    go_wp2_with fail
    refine Calls.mono (dictBegun_any _) ?_
    rintro e w2 ⟨rfl, hx⟩
    replace Xp := hid (Xp.out.then hx)
    replace R1 := hid (R1.out.keep hx)
    replace R2 := hid (R2.out.keep hx)
    clear hx 
    go_wp2_with fail
    refine Calls.mono (HTX.out _ _ _ _ _ R1.out R2.out) ?_
    rintro e w3 ⟨B3, c3, rfl, h1, hx⟩
    replace Xp := hid (Xp.out.then hx)
    replace R1 := hid (R1.out.keep hx)
    replace R2 := hid (R2.out.keep hx)
    have R3 := hid h1
    clear hx h1
    go_wp2_with fail
    refine Calls.mono (sameTexts_self l _ _ n _ _ _ HN.out R3.out (HR.out.keep Xp.out) (by have := HN64.out; omega)) ?_
    rintro e w4 ⟨rfl, hx⟩
    replace Xp := hid (Xp.out.then hx)
    replace R1 := hid (R1.out.keep hx)
    replace R2 := hid (R2.out.keep hx)
    replace R3 := hid (R3.out.keep hx)
    clear hx 
    go_wp2
    go_returns
    exact ⟨rfl, Xp.out⟩
end Go.Proofs.Ytpheegfanljeeaa
