/- Vary: the laws on lists, walked. -/
import Derived.Test.YthcmmmccbpfflaaVlw
namespace Go.Proofs.Ythcmmmccbpfflaa
open Go.RowKit Hy
set_option maxHeartbeats 1000000 in
theorem varyRows_walk (a b : List Nat) (A B : Option Addr) (n m ca cb : Nat) (w : World) (hn : a.length = n) (hm : b.length = m) (ha : Rd w A (u64s a)) (hb : Rd w B (u64s b)) (hla : ∀ x ∈ a, x < 18446744073709551616) (hlb : ∀ x ∈ b, x < 18446744073709551616)
    (hnl : n ≤ 17592186044416) (hml : m ≤ 17592186044416) :
    Calls Try.prog 9 #[.slice A n ca, .slice B m cb] w fun e w' => e = .returned (.bool true) ∧ Ext w w' := by
  have hl := Vary.all_less a b hla hlb
  have H1 := hid (fun (wx : World) (hx : Ext w wx) => all_any a A n ca wx hn (ha.keep hx) hla hnl)
  have H2 := hid (fun (wx : World) (hx : Ext w wx) => all_any b B m cb wx hm (hb.keep hx) hlb hml)
  have H3 := hid (fun (wx : World) (hx : Ext w wx) => numsLess_any a b A B n m ca cb wx hn hm (ha.keep hx) (hb.keep hx) (by omega))
  obtain ⟨S, hS⟩ : ∃ S : ByteArray, S = ⟨(Vary.all a).toArray⟩ := ⟨_, rfl⟩
  obtain ⟨T, hT⟩ : ∃ T : ByteArray, T = ⟨(Vary.all b).toArray⟩ := ⟨_, rfl⟩
  have hl' : Op.bytesLess S.toList T.toList = numsLess a b := by rw [hS, hT, ByteArray.toList_mk, ByteArray.toList_mk, hl]
  rw [← hS] at H1
  rw [← hT] at H2
  generalize numsLess a b = r at *
  clear hS hT hl hn hm ha hb hla hlb
  go_enter Try.func9, Try.ntmps9
  go_wp2_with fail
  refine (varyBegun_any _).mono ?_
  rintro e w1 ⟨rfl, b1⟩
  go_wp2_with fail
  refine (H1.out _ b1).mono ?_
  rintro e w2 ⟨rfl, b2⟩
  go_wp2_with fail
  refine (H2.out _ (b1.then b2)).mono ?_
  rintro e w3 ⟨rfl, b3⟩
  go_wp2_with fail
  refine (H3.out _ ((b1.then b2).then b3)).mono ?_
  rintro e w4 ⟨rfl, b4⟩
  cases r
  · go_wp2_with fail
    go_returns
    exact ⟨rfl, ((b1.then b2).then b3).then b4⟩
  · go_wp2_with fail
    go_returns
    exact ⟨rfl, ((b1.then b2).then b3).then b4⟩
set_option maxHeartbeats 1000000 in
theorem varyLists_walk (l : List Nat) (A : Option Addr) (n ca : Nat) (s : ByteArray) (w : World) (hn : l.length = n) (hr : Rd w A (u64s l)) (hl : ∀ x ∈ l, x < 18446744073709551616) (hnl : n ≤ 17592186044416) (hs : s.size ≤ 17592186044416) :
    Calls Try.prog 7 #[.slice A n ca, .string s] w fun e w' => e = .returned (.bool true) ∧ Ext w w' := by
  have hcnt : (Vary.many s.data.toList).1.length ≤ s.size := by have := Vary.many_len s.data.toList; rw [Array.length_toList] at this; exact this
  have hcl : (Vary.rl s.data.toList).length ≤ s.size := by
    by_cases h0 : (Vary.many s.data.toList).2 = 0
    · rw [Vary.rl_ok _ h0]; exact hcnt
    · rw [Vary.rl_bad _ h0]; exact Nat.zero_le _
  have H1 := hid (fun wx : World => readAll_any s wx (by omega) (by omega))
  have H2 := hid (fun wx : World => listOf_any s wx (by omega) (by omega))
  have H3 := hid (fun (wx : World) (hx : Ext w wx) => all_any l A n ca wx hn (hr.keep hx) hl hnl)
  have H4 := hid (fun (wx : World) (hx : Ext w wx) => listBytes_any l A n ca wx hn (hr.keep hx) hl hnl)
  have HS := hid (show sameNums (Vary.rl s.data.toList) (Vary.rl s.data.toList) = true from decide_eq_true rfl)
  generalize (Vary.many s.data.toList).2 = er at *
  generalize Vary.rl s.data.toList = L at *
  generalize (Vary.all l).toArray = q at *
  clear hn hr hl hcnt
  go_enter Try.func7, Try.ntmps7
  go_wp2_with fail
  refine (H1.out _).mono ?_
  rintro e w1 ⟨A1, c1, rfl, hr1, b1⟩
  have HR1 := hid hr1
  clear hr1
  go_wp2_with fail
  refine (H2.out _).mono ?_
  rintro e w2 ⟨A2, c2, rfl, hr2, b2⟩
  have HR2 := hid hr2
  clear hr2
  go_wp2_with fail
  refine (varyBegun_any _).mono ?_
  rintro e w3 ⟨rfl, b3⟩
  go_wp2_with fail
  refine (H3.out _ ((b1.then b2).then b3)).mono ?_
  rintro e w4 ⟨rfl, b4⟩
  go_wp2_with fail
  refine (H4.out _ (((b1.then b2).then b3).then b4)).mono ?_
  rintro e w5 ⟨rfl, b5⟩
  go_wp2_with fail
  have B := (b3.then b4).then b5
  refine (sameNums_any L L A1 A2 _ _ c1 c2 _ rfl rfl (HR1.out.keep (b2.then B)) (HR2.out.keep B) (by omega)).mono ?_
  rintro e w6 ⟨rfl, b6⟩
  rw [HS.out]
  go_wp2_with fail
  go_returns
  exact ⟨rfl, ((b1.then b2).then B).then b6⟩
set_option maxHeartbeats 1000000 in
theorem varyBack_walk (k : Nat) (l : List Nat) (A : Option Addr) (n ca : Nat) (s : ByteArray) (w : World) (hk : k < 18446744073709551616) (hn : l.length = n) (hr : Rd w A (u64s l)) (hl : ∀ x ∈ l, x < 18446744073709551616) (hnl : n ≤ 17592186044416) (hs : s.size ≤ 281474976710656) :
    Calls Try.prog 8 #[.int .u64 k, .slice A n ca, .string s] w fun e w' => e = .returned (.bool true) ∧ Ext w w' := by
  have hrd := Vary.rd_wr k s.data.toList hk
  have hwl := Vary.wr_len k
  have hb8 := Vary.beh_le8 k
  have H1 := fun wx : World => hid (write_any k wx hk)
  obtain ⟨S, hS⟩ : ∃ S : ByteArray, S = ⟨(Vary.wr k).toArray⟩ := ⟨_, rfl⟩
  have hSz : S.size = Vary.beh k + 1 := by rw [hS, str_size, hwl]
  have hSI : (S.size : Int) = (Vary.beh k : Int) + 1 := by omega
  have HC := fun wx : World => hid (read_any (S ++ s) wx)
  have e1 : (S ++ s).data.toList = Vary.wr k ++ s.data.toList := by rw [app_list, hS]
  simp only [e1, hrd] at HC
  rw [← hS] at H1
  have hma := Vary.many_all l hl
  have hrl : Vary.rl (Vary.all l) = l := by rw [Vary.rl_ok _ (by rw [hma]), hma]
  have hal := Vary.all_len l
  have H3 := hid (fun (wx : World) (hx : Ext w wx) => all_any l A n ca wx hn (hr.keep hx) hl hnl)
  have H4 := hid (fun wx : World => readAll_any ⟨(Vary.all l).toArray⟩ wx (by rw [str_size]; omega) (by show (Vary.many (Vary.all l)).1.length ≤ _; rw [hma]; show l.length ≤ _; omega))
  simp only [hrl, hma] at H4
  have HS := hid (show sameNums l l = true from decide_eq_true rfl)
  have H5 := hid (fun (wx : World) (A1 : Option Addr) (c1 : Nat) (h1 : Rd wx A1 (u64s l)) (hx : Ext w wx) => sameNums_any l l A1 A l.length n c1 ca wx rfl hn h1 (hr.keep hx) (by omega))
  generalize (Vary.all l).toArray = q at *
  generalize Vary.beh k = b at *
  clear hn hr hl hrd hwl hS e1 hma hrl hal hSz
  go_enter Try.func8, Try.ntmps8
  go_wp2_with fail
  refine (H1 _).out.mono ?_
  rintro e w1 ⟨rfl, b1⟩
  go_wp2_with fail
  refine (HC _).out.mono ?_
  rintro e w2 ⟨rfl, b2⟩
  go_wp2_with fail
  refine (H3.out _ (b1.then b2)).mono ?_
  rintro e w3 ⟨rfl, b3⟩
  go_wp2_with fail
  refine (H4.out _).mono ?_
  rintro e w4 ⟨A1, c1, rfl, hr1, b4⟩
  have HR1 := hid hr1
  clear hr1
  go_wp2_with fail
  refine (varyBegun_any _).mono ?_
  rintro e w5 ⟨rfl, b5⟩
  go_wp2_with fail
  refine (H1 _).out.mono ?_
  rintro e w6 ⟨rfl, b6⟩
  go_wp2_with fail
  have B := (((b1.then b2).then b3).then b4)
  refine (H5.out _ A1 c1 (HR1.out.keep (b5.then b6)) (B.then (b5.then b6))).mono ?_
  rintro e w7 ⟨rfl, b7⟩
  rw [HS.out]
  go_wp2_with fail
  go_returns
  exact ⟨rfl, (B.then (b5.then b6)).then b7⟩
end Go.Proofs.Ythcmmmccbpfflaa
