/- Patch: the laws Tells, Reads, Back, Least: walks (printed by gen_pat.py). -/
import Derived.Test.YtdblegdbfdhepaaPas
namespace Go.Proofs.Ytdblegdbfdhepaa
open Go.RowKit Hy

set_option maxRecDepth 100000 in
set_option maxHeartbeats 1600000 in
theorem patchTells_walk (l : List Nat) (A : Option Addr) (n cap : Nat) (wd : Int) (w : World) (hn : l.length = n) (hr : Rd w A (u64s l)) (hl : ∀ x ∈ l, x < 18446744073709551616) (hnl : n ≤ 9223372036854775806) :
    Calls Try.prog 9 #[.slice A n cap, .int .i64 wd] w fun e w' => e = .returned (.bool true) ∧ Ext w w' := by
  have hnI : (n : Int) ≤ 9223372036854775806 := by omega
  have HCOST := hid (fun wx (hx : Ext w wx) => pCost_any l A n cap wd wx hn (hr.keep hx) hl hnl)
  have HWRT := hid (fun wx (hx : Ext w wx) => pWrite_any l A n cap wx hn (hr.keep hx) hl hnl)
  by_cases h64 : 64 < n
  · by_cases hb : wd < 0 ∨ 64 < wd
    · rw [show Pat.wrt l = ([], 2) by unfold Pat.wrt; rw [if_pos (by omega)]] at HWRT
      have h64I : (64 : Int) < (n : Int) := by omega
      rw [Pat.cos_range hb] at HCOST
      clear hr hl hn hnl h64
      rcases hb with hb | hb
      · go_enter Try.func9, Try.ntmps9
        go_wp2_with fail
        refine Calls.mono (HCOST.out _ (ext_refl _)) ?_
        rintro e w1 ⟨rfl, hx⟩
        have Xp := hid hx
        clear hx 
        go_wp2_with fail
        refine Calls.mono (HWRT.out _ Xp.out) ?_
        rintro e w2 ⟨rfl, hx⟩
        replace Xp := hid (Xp.out.then hx)
        clear hx 
        go_wp2_with fail
        refine Calls.mono (patchBegun_any _) ?_
        rintro e w3 ⟨rfl, hx⟩
        replace Xp := hid (Xp.out.then hx)
        clear hx 
        go_wp2
        go_returns
        exact ⟨rfl, Xp.out⟩
      · have hb0 : ¬ wd < 0 := by omega
        go_enter Try.func9, Try.ntmps9
        go_wp2_with fail
        refine Calls.mono (HCOST.out _ (ext_refl _)) ?_
        rintro e w1 ⟨rfl, hx⟩
        have Xp := hid hx
        clear hx 
        go_wp2_with fail
        refine Calls.mono (HWRT.out _ Xp.out) ?_
        rintro e w2 ⟨rfl, hx⟩
        replace Xp := hid (Xp.out.then hx)
        clear hx 
        go_wp2_with fail
        refine Calls.mono (patchBegun_any _) ?_
        rintro e w3 ⟨rfl, hx⟩
        replace Xp := hid (Xp.out.then hx)
        clear hx 
        go_wp2
        go_returns
        exact ⟨rfl, Xp.out⟩
    · rw [show Pat.wrt l = ([], 2) by unfold Pat.wrt; rw [if_pos (by omega)]] at HWRT
      have h64I : (64 : Int) < (n : Int) := by omega
      rw [Pat.cos_many hb (by omega)] at HCOST
      clear hr hl hn hnl h64
      have hb1 : ¬ wd < 0 := by omega
      have hb2 : ¬ 64 < wd := by omega
      clear hb
      go_enter Try.func9, Try.ntmps9
      go_wp2_with fail
      refine Calls.mono (HCOST.out _ (ext_refl _)) ?_
      rintro e w1 ⟨rfl, hx⟩
      have Xp := hid hx
      clear hx 
      go_wp2_with fail
      refine Calls.mono (HWRT.out _ Xp.out) ?_
      rintro e w2 ⟨rfl, hx⟩
      replace Xp := hid (Xp.out.then hx)
      clear hx 
      go_wp2_with fail
      refine Calls.mono (patchBegun_any _) ?_
      rintro e w3 ⟨rfl, hx⟩
      replace Xp := hid (Xp.out.then hx)
      clear hx 
      go_wp2
      go_returns
      exact ⟨rfl, Xp.out⟩
  · by_cases hb : wd < 0 ∨ 64 < wd
    · rw [show Pat.wrt l = (Pat.bys l, 0) by unfold Pat.wrt; rw [if_neg (by omega)]] at HWRT
      have HPB := hid (fun wx (hx : Ext w wx) => patchBytes_any l A n cap wx hn (hr.keep hx) hl (by omega))
      obtain ⟨V, hV⟩ : ∃ S : ByteArray, S = ⟨(Pat.bys l).toArray⟩ := ⟨_, rfl⟩
      simp only [← hV] at HWRT HPB
      have h64I : (n : Int) ≤ 64 := by omega
      rw [Pat.cos_range hb] at HCOST
      clear hr hl hn hnl h64 hV
      rcases hb with hb | hb
      · go_enter Try.func9, Try.ntmps9
        go_wp2_with fail
        refine Calls.mono (HCOST.out _ (ext_refl _)) ?_
        rintro e w1 ⟨rfl, hx⟩
        have Xp := hid hx
        clear hx 
        go_wp2_with fail
        refine Calls.mono (HWRT.out _ Xp.out) ?_
        rintro e w2 ⟨rfl, hx⟩
        replace Xp := hid (Xp.out.then hx)
        clear hx 
        go_wp2_with fail
        refine Calls.mono (HPB.out _ Xp.out) ?_
        rintro e w3 ⟨rfl, hx⟩
        replace Xp := hid (Xp.out.then hx)
        clear hx 
        go_wp2_with fail
        refine Calls.mono (patchBegun_any _) ?_
        rintro e w4 ⟨rfl, hx⟩
        replace Xp := hid (Xp.out.then hx)
        clear hx 
        go_wp2
        go_returns
        exact ⟨rfl, Xp.out⟩
      · have hb0 : ¬ wd < 0 := by omega
        go_enter Try.func9, Try.ntmps9
        go_wp2_with fail
        refine Calls.mono (HCOST.out _ (ext_refl _)) ?_
        rintro e w1 ⟨rfl, hx⟩
        have Xp := hid hx
        clear hx 
        go_wp2_with fail
        refine Calls.mono (HWRT.out _ Xp.out) ?_
        rintro e w2 ⟨rfl, hx⟩
        replace Xp := hid (Xp.out.then hx)
        clear hx 
        go_wp2_with fail
        refine Calls.mono (HPB.out _ Xp.out) ?_
        rintro e w3 ⟨rfl, hx⟩
        replace Xp := hid (Xp.out.then hx)
        clear hx 
        go_wp2_with fail
        refine Calls.mono (patchBegun_any _) ?_
        rintro e w4 ⟨rfl, hx⟩
        replace Xp := hid (Xp.out.then hx)
        clear hx 
        go_wp2
        go_returns
        exact ⟨rfl, Xp.out⟩
    · rw [show Pat.wrt l = (Pat.bys l, 0) by unfold Pat.wrt; rw [if_neg (by omega)]] at HWRT
      have HPB := hid (fun wx (hx : Ext w wx) => patchBytes_any l A n cap wx hn (hr.keep hx) hl (by omega))
      obtain ⟨V, hV⟩ : ∃ S : ByteArray, S = ⟨(Pat.bys l).toArray⟩ := ⟨_, rfl⟩
      simp only [← hV] at HWRT HPB
      have h64I : (n : Int) ≤ 64 := by omega
      obtain ⟨k, rfl⟩ : ∃ k : Nat, wd = (k : Int) := ⟨wd.toNat, by omega⟩
      rw [Pat.cos_in (by omega) (by omega)] at HCOST
      have HCO := hid (fun wx (hx : Ext w wx) => costOf_any l A n cap k wx hn (hr.keep hx) hl (by omega) (by omega))
      generalize Pat.cst (Pat.mor l) k = c at *
      have hk1 : (k : Int) ≤ 64 := by omega
      clear hr hl hn hnl h64 hV
      clear hb
      go_enter Try.func9, Try.ntmps9
      go_wp2_with fail
      refine Calls.mono (HCOST.out _ (ext_refl _)) ?_
      rintro e w1 ⟨rfl, hx⟩
      have Xp := hid hx
      clear hx 
      go_wp2_with fail
      refine Calls.mono (HWRT.out _ Xp.out) ?_
      rintro e w2 ⟨rfl, hx⟩
      replace Xp := hid (Xp.out.then hx)
      clear hx 
      go_wp2_with fail
      refine Calls.mono (HPB.out _ Xp.out) ?_
      rintro e w3 ⟨rfl, hx⟩
      replace Xp := hid (Xp.out.then hx)
      clear hx 
      go_wp2_with fail
      refine Calls.mono (HCO.out _ Xp.out) ?_
      rintro e w4 ⟨rfl, hx⟩
      replace Xp := hid (Xp.out.then hx)
      clear hx 
      go_wp2_with fail
      refine Calls.mono (patchBegun_any _) ?_
      rintro e w5 ⟨rfl, hx⟩
      replace Xp := hid (Xp.out.then hx)
      clear hx 
      go_wp2
      go_returns
      exact ⟨rfl, Xp.out⟩
end Go.Proofs.Ytdblegdbfdhepaa
namespace Hy.Pat
theorem add_bd (b : Nat) (M : List Nat) : (add b M).2 ≤ 8 ∧ (add b M).1.length ≤ M.length := by
  unfold add
  split <;> simp
theorem rdP_both (s : List UInt8) (many : Int) : (rdP s many).2 ≤ 8 ∧ (rdP s many).1.length ≤ 64 := by
  by_cases h1 : many < 0
  · rw [rdP_neg h1]; simp
  by_cases h2 : 64 < many
  · rw [rdP_many h2]; simp
  obtain ⟨m, rfl⟩ : ∃ m : Nat, many = (m : Int) := ⟨many.toNat, by omega⟩
  have hb := fr_bd s m
  by_cases h3 : (fr s m).1 = 0
  · rw [rdP_ok (by omega) h3]
    have h4 := add_bd (fr s m).2.1 (fr s m).2.2
    have h5 := (hb.2.2 h3).1
    omega
  · rw [rdP_err (by omega) h3]
    have := hb.1
    refine ⟨?_, by simp⟩
    show (fr s m).1 ≤ 8
    omega
theorem rdP_bd (s : List UInt8) (many : Int) : (rdP s many).2 ≤ 8 := (rdP_both s many).1
theorem rdP_len (s : List UInt8) (many : Int) : (rdP s many).1.length ≤ 64 := (rdP_both s many).2
end Hy.Pat
namespace Go.Proofs.Ytdblegdbfdhepaa
open Go.RowKit Hy
set_option maxRecDepth 100000 in
set_option maxHeartbeats 1600000 in
theorem patchReads_walk (s : ByteArray) (many : Int) (w : World) (hs : s.size ≤ 281474976710656) :
    Calls Try.prog 10 #[.string s, .int .i64 many] w fun e w' => e = .returned (.bool true) ∧ Ext w w' := by
  have H1 := hid (fun wx => pRead_any s many wx hs)
  have H2 := hid (fun wx => patchOf_any s many wx hs)
  have hE := Pat.rdP_bd s.data.toList many
  have hLb := Pat.rdP_len s.data.toList many
  obtain ⟨⟨R, E⟩, hRE⟩ : ∃ p, Pat.rdP s.data.toList many = p := ⟨_, rfl⟩
  rw [hRE] at H1 H2 hE hLb
  simp only at H1 H2 hE hLb
  have hEI : (E : Int) ≤ 8 := by omega
  have HL := hid hLb
  clear hs hRE hLb hE
  go_enter Try.func10, Try.ntmps10
  go_wp2_with fail
  refine Calls.mono (H1.out _) ?_
  rintro e w1 ⟨B1, c1, rfl, h1, hx⟩
  have Xp := hid hx
  have R1 := hid h1
  clear hx h1
  go_wp2_with fail
  refine Calls.mono (H2.out _) ?_
  rintro e w2 ⟨B2, c2, rfl, h1, hx⟩
  replace Xp := hid (Xp.out.then hx)
  replace R1 := hid (R1.out.keep hx)
  have R2 := hid h1
  clear hx h1
  go_wp2_with fail
  refine Calls.mono (patchBegun_any _) ?_
  rintro e w3 ⟨rfl, hx⟩
  replace Xp := hid (Xp.out.then hx)
  replace R1 := hid (R1.out.keep hx)
  replace R2 := hid (R2.out.keep hx)
  clear hx 
  go_wp2_with fail
  refine Calls.mono (sameNums_self R _ _ R.length _ _ _ rfl R1.out R2.out (by have := HL.out; omega)) ?_
  rintro e w4 ⟨rfl, hx⟩
  replace Xp := hid (Xp.out.then hx)
  replace R1 := hid (R1.out.keep hx)
  replace R2 := hid (R2.out.keep hx)
  clear hx 
  go_wp2
  go_returns
  exact ⟨rfl, Xp.out⟩
set_option maxRecDepth 100000 in
set_option maxHeartbeats 1600000 in
theorem patchBack_walk (l : List Nat) (A : Option Addr) (n cap : Nat) (w : World) (hn : l.length = n) (hr : Rd w A (u64s l)) (hl : ∀ x ∈ l, x < 18446744073709551616) (hnl : n ≤ 9223372036854775806) :
    Calls Try.prog 11 #[.slice A n cap] w fun e w' => e = .returned (.bool true) ∧ Ext w w' := by
  have hnI : (n : Int) ≤ 9223372036854775806 := by omega
  have HWRT := hid (fun wx (hx : Ext w wx) => pWrite_any l A n cap wx hn (hr.keep hx) hl hnl)
  by_cases h64 : 64 < n
  · rw [show Pat.wrt l = ([], 2) by unfold Pat.wrt; rw [if_pos (by omega)]] at HWRT
    have h64I : (64 : Int) < (n : Int) := by omega
    clear hr hl hn hnl h64
    go_enter Try.func11, Try.ntmps11
    go_wp2_with fail
    refine Calls.mono (HWRT.out _ (ext_refl _)) ?_
    rintro e w1 ⟨rfl, hx⟩
    have Xp := hid hx
    clear hx 
    go_wp2_with fail
    refine Calls.mono (patchBegun_any _) ?_
    rintro e w2 ⟨rfl, hx⟩
    replace Xp := hid (Xp.out.then hx)
    clear hx 
    go_wp2
    go_returns
    exact ⟨rfl, Xp.out⟩
  · rw [show Pat.wrt l = (Pat.bys l, 0) by unfold Pat.wrt; rw [if_neg (by omega)]] at HWRT
    have hbl := Pat.bys_len l
    have h1 := Pat.cst_lt (Pat.mor l) (by rw [Pat.mor_len, hn]; omega) (Pat.bst (Pat.mor l) 64) (Pat.bst_le _ _)
    have h2 := Vary.beh_le8 (Pat.bas l)
    rw [Vary.wr_len] at hbl
    have hw := Pat.rdP_bys l (by omega) hl
    rw [hn] at hw
    have HRD := hid (fun wx => pRead_of _ _ wx _ _ (by omega) hw)
    rw [hn] at HRD
    obtain ⟨V, hV⟩ : ∃ S : ByteArray, S = ⟨(Pat.bys l).toArray⟩ := ⟨_, rfl⟩
    simp only [← hV] at HWRT HRD
    have HN := hid hn
    have HR := hid hr
    have HN64 := hid (show n ≤ 64 by omega)
    clear hr hl hn hnl h64 hV hbl h1 h2 hw
    go_enter Try.func11, Try.ntmps11
    go_wp2_with fail
    refine Calls.mono (HWRT.out _ (ext_refl _)) ?_
    rintro e w1 ⟨rfl, hx⟩
    have Xp := hid hx
    clear hx 
    go_wp2_with fail
    refine Calls.mono (patchBegun_any _) ?_
    rintro e w2 ⟨rfl, hx⟩
    replace Xp := hid (Xp.out.then hx)
    clear hx 
    go_wp2_with fail
    refine Calls.mono (HRD.out _) ?_
    rintro e w3 ⟨B1, c1, rfl, h1, hx⟩
    replace Xp := hid (Xp.out.then hx)
    have R1 := hid h1
    clear hx h1
    go_wp2_with fail
    refine Calls.mono (sameNums_self l _ _ n _ _ _ HN.out R1.out (HR.out.keep Xp.out) (by have := HN64.out; omega)) ?_
    rintro e w4 ⟨rfl, hx⟩
    replace Xp := hid (Xp.out.then hx)
    replace R1 := hid (R1.out.keep hx)
    clear hx 
    go_wp2
    go_returns
    exact ⟨rfl, Xp.out⟩
set_option maxRecDepth 100000 in
set_option maxHeartbeats 1600000 in
theorem patchLeast_walk (l : List Nat) (A : Option Addr) (n cap : Nat) (wd : Int) (w : World) (hn : l.length = n) (hr : Rd w A (u64s l)) (hl : ∀ x ∈ l, x < 18446744073709551616) (hnl : n ≤ 9223372036854775806) :
    Calls Try.prog 12 #[.slice A n cap, .int .i64 wd] w fun e w' => e = .returned (.bool true) ∧ Ext w w' := by
  have hnI : (n : Int) ≤ 9223372036854775806 := by omega
  have HCOST := hid (fun wx (hx : Ext w wx) => pCost_any l A n cap wd wx hn (hr.keep hx) hl hnl)
  have HWRT := hid (fun wx (hx : Ext w wx) => pWrite_any l A n cap wx hn (hr.keep hx) hl hnl)
  by_cases h64 : 64 < n
  · rw [show Pat.wrt l = ([], 2) by unfold Pat.wrt; rw [if_pos (by omega)]] at HWRT
    obtain ⟨⟨cc, ce⟩, hcc⟩ : ∃ p, Pat.cos l wd = p := ⟨_, rfl⟩
    rw [hcc] at HCOST
    clear hr hl hn hnl h64 hcc
    go_enter Try.func12, Try.ntmps12
    go_wp2_with fail
    refine Calls.mono (HWRT.out _ (ext_refl _)) ?_
    rintro e w1 ⟨rfl, hx⟩
    have Xp := hid hx
    clear hx 
    go_wp2_with fail
    refine Calls.mono (patchBegun_any _) ?_
    rintro e w2 ⟨rfl, hx⟩
    replace Xp := hid (Xp.out.then hx)
    clear hx 
    go_wp2_with fail
    refine Calls.mono (HCOST.out _ Xp.out) ?_
    rintro e w3 ⟨rfl, hx⟩
    replace Xp := hid (Xp.out.then hx)
    clear hx 
    go_wp2
    go_returns
    exact ⟨rfl, Xp.out⟩
  · by_cases hb : wd < 0 ∨ 64 < wd
    · rw [show Pat.wrt l = (Pat.bys l, 0) by unfold Pat.wrt; rw [if_neg (by omega)]] at HWRT
      have hbl := Pat.bys_len l
      have h1 := Pat.cst_lt (Pat.mor l) (by rw [Pat.mor_len, hn]; omega) (Pat.bst (Pat.mor l) 64) (Pat.bst_le _ _)
      have h2 := Vary.beh_le8 (Pat.bas l)
      rw [Pat.cos_range hb] at HCOST
      obtain ⟨V, hV⟩ : ∃ S : ByteArray, S = ⟨(Pat.bys l).toArray⟩ := ⟨_, rfl⟩
      simp only [← hV] at HWRT
      clear hr hl hn hnl h64 hb hbl h1 h2 hV
      go_enter Try.func12, Try.ntmps12
      go_wp2_with fail
      refine Calls.mono (HWRT.out _ (ext_refl _)) ?_
      rintro e w1 ⟨rfl, hx⟩
      have Xp := hid hx
      clear hx 
      go_wp2_with fail
      refine Calls.mono (patchBegun_any _) ?_
      rintro e w2 ⟨rfl, hx⟩
      replace Xp := hid (Xp.out.then hx)
      clear hx 
      go_wp2_with fail
      refine Calls.mono (HCOST.out _ Xp.out) ?_
      rintro e w3 ⟨rfl, hx⟩
      replace Xp := hid (Xp.out.then hx)
      clear hx 
      go_wp2
      go_returns
      exact ⟨rfl, Xp.out⟩
    · rw [show Pat.wrt l = (Pat.bys l, 0) by unfold Pat.wrt; rw [if_neg (by omega)]] at HWRT
      have hbl := Pat.bys_len l
      have h1 := Pat.cst_lt (Pat.mor l) (by rw [Pat.mor_len, hn]; omega) (Pat.bst (Pat.mor l) 64) (Pat.bst_le _ _)
      have h2 := Vary.beh_le8 (Pat.bas l)
      obtain ⟨k, rfl⟩ : ∃ k : Nat, wd = (k : Int) := ⟨wd.toNat, by omega⟩
      rw [Pat.cos_in (by omega) (by omega)] at HCOST
      have h3 := Pat.bst_least (Pat.mor l) 64 k (by omega)
      have h4 := Pat.cst_lt (Pat.mor l) (by rw [Pat.mor_len, hn]; omega) k (by omega)
      have hwb := Pat.bst_le (Pat.mor l) 64
      have HC2 := hid (fun wx (hx : Ext w wx) => pCost_any l A n cap (Pat.bst (Pat.mor l) 64 : Nat) wx hn (hr.keep hx) hl hnl)
      rw [Pat.cos_in hwb (by omega)] at HC2
      have HBA := hid (fun wx (hx : Ext w wx) => baseOf_any l A n cap wx hn (hr.keep hx) hl (by omega))
      have HVB := hid (fun wx => varyBytes_any (Pat.bas l) wx (Pat.bas_lt l hl))
      have hbb := Pat.bas_lt l hl
      have hbe := Pat.bys_eq l
      obtain ⟨V, hV⟩ : ∃ S : ByteArray, S = ⟨(Pat.bys l).toArray⟩ := ⟨_, rfl⟩
      simp only [← hV] at HWRT
      obtain ⟨U, hU⟩ : ∃ S : ByteArray, S = ⟨(Vary.wr (Pat.bas l)).toArray⟩ := ⟨_, rfl⟩
      simp only [← hU] at HVB
      have hUs : U.size = (Vary.wr (Pat.bas l)).length := by rw [hU, str_size]
      have hVs : V.size = U.size + 2 + Pat.cst (Pat.mor l) (Pat.bst (Pat.mor l) 64) := by rw [hV, str_size, hbl, hUs]
      have hU9 : U.size ≤ 9 := by rw [hUs, Vary.wr_len]; omega
      have hI := fun wx : World => run_ix (P := Try.prog) (w := wx) Try.underlying9 V .i64 U.size (UInt8.ofNat (Pat.bst (Pat.mor l) 64)) (by
        rw [hV, show (⟨(Pat.bys l).toArray⟩ : ByteArray).data.toList = Pat.bys l by simp, hbe, List.append_assoc, List.append_assoc, hUs, List.getElem?_append_right (Nat.le_refl _), Nat.sub_self]; rfl)
      rw [show (UInt8.ofNat (Pat.bst (Pat.mor l) 64)).toNat = Pat.bst (Pat.mor l) 64 by rw [UInt8.toNat_ofNat']; omega] at hI
      generalize Pat.bst (Pat.mor l) 64 = wb at *
      generalize Pat.cst (Pat.mor l) wb = c1 at *
      generalize Pat.cst (Pat.mor l) k = c2 at *
      generalize Pat.bas l = b at *
      have hwI : (wb : Int) ≤ 64 := by omega
      have hUI : (U.size : Int) ≤ 9 := by omega
      have hc1I : (c1 : Int) ≤ 2000 := by omega
      have hc2I : (c2 : Int) ≤ 2000 := by omega
      have hleI : (c1 : Int) ≤ (c2 : Int) := by omega
      have hVI : (V.size : Int) = (U.size : Int) + 2 + (c1 : Int) := by omega
      have hbI : (b : Int) ≤ 18446744073709551615 := by omega
      clear hr hl hn hnl h64 hb hbl h1 h2 hV h3 h4 hwb hbe hU hUs hVs hU9 hbb
      go_enter Try.func12, Try.ntmps12
      go_wp2_with fail
      refine Calls.mono (HWRT.out _ (ext_refl _)) ?_
      rintro e w1 ⟨rfl, hx⟩
      have Xp := hid hx
      clear hx 
      go_wp2_with fail
      refine Calls.mono (patchBegun_any _) ?_
      rintro e w2 ⟨rfl, hx⟩
      replace Xp := hid (Xp.out.then hx)
      clear hx 
      go_wp2_with fail
      refine Calls.mono (HCOST.out _ Xp.out) ?_
      rintro e w3 ⟨rfl, hx⟩
      replace Xp := hid (Xp.out.then hx)
      clear hx 
      go_wp2_with fail
      refine Calls.mono (HBA.out _ Xp.out) ?_
      rintro e _ ⟨rfl, rfl⟩
      go_wp2_with fail
      refine Calls.mono (HVB.out _) ?_
      rintro e w5 ⟨rfl, hx⟩
      replace Xp := hid (Xp.out.then hx)
      clear hx 
      go_wp2_with fail
      refine Calls.mono (HC2.out _ Xp.out) ?_
      rintro e w6 ⟨rfl, hx⟩
      replace Xp := hid (Xp.out.then hx)
      clear hx 
      go_wp2
      go_returns
      exact ⟨rfl, Xp.out⟩
end Go.Proofs.Ytdblegdbfdhepaa
