/- Delta: the laws Back, Reads: walks. -/
import Derived.Test.YtdblegdbfdhepaaDld
namespace Go.Proofs.Ytdblegdbfdhepaa
open Go.RowKit Hy
set_option maxHeartbeats 1000000 in
theorem deltaReads_walk (l : List Nat) (A : Option Addr) (n cap : Nat) (w : World) (hn : l.length = n) (hr : Rd w A (u64s l)) (hcap : n ≤ cap) (hl : ∀ x ∈ l, x < 18446744073709551616) (hnl : n ≤ 9223372036854775806) :
    Calls Try.prog 19 #[.slice A n cap] w fun e w' => e = .returned (.bool true) ∧ Ext w w' := by
  have H1 := hid (dWrite_any l A n cap w hn hr hcap hl hnl)
  unfold Dlt.wrt at H1
  have hnI : (n : Int) ≤ 9223372036854775806 := by omega
  by_cases h64 : 64 < n
  · rw [if_pos (by omega)] at H1
    have h64I : (64 : Int) < (n : Int) := by omega
    clear hr hl hn hcap hnl h64
    go_enter Try.func19, Try.ntmps19
    go_wp2_with fail
    refine Calls.mono H1.out ?_
    rintro e w1 ⟨rfl, hx⟩
    have X1 := hid hx
    clear hx
    go_wp2_with fail
    refine Calls.mono (deltaBegun_any _) ?_
    rintro e w2 ⟨rfl, hx⟩
    replace X1 := hid (X1.out.then hx)
    clear hx
    go_wp2
    go_returns
    exact ⟨rfl, X1.out⟩
  · rw [if_neg (by omega)] at H1
    have hw := Dlt.rds_wrt l (by omega) hl
    rw [hn] at hw
    have hbl : (Dlt.bys l).length ≤ 281474976710656 := by
      cases hc : l with
      | nil => rw [Dlt.bys_nil]; simp
      | cons x r =>
        have hz := Dlt.zs_lt (x :: r)
        have hzl := Dlt.zs_len (x :: r)
        have hw64 := Bits.width_le64 _ hz
        have h1 : (Dlt.zs (x :: r)).length ≤ 64 := by rw [hzl, ← hc, hn]; omega
        have h2 := Hyb.raw_len (Dlt.zs (x :: r)) _ hw64 h1
        have h3 : Bits.size (Dlt.zs (x :: r)).length (Bits.width (Dlt.zs (x :: r))) ≤ 512 := by unfold Bits.size; have := Nat.mul_le_mul h1 hw64; omega
        have h4 := Vary.beh_le8 x
        rw [Dlt.bys_cons, List.length_append, List.length_append, Vary.wr_len, List.length_singleton]
        omega
    have H2 := hid (fun wx => dRead_of _ _ wx _ _ hbl hw)
    rw [hn] at H2
    obtain ⟨V, hV⟩ : ∃ S : ByteArray, S = ⟨(Dlt.bys l).toArray⟩ := ⟨_, rfl⟩
    rw [← hV] at H1 H2
    have HN := hid hn
    have HR := hid hr
    have HN64 := hid (show n ≤ 64 by omega)
    clear hr hl hn hcap hnl h64 hw hbl hV
    go_enter Try.func19, Try.ntmps19
    go_wp2_with fail
    refine Calls.mono H1.out ?_
    rintro e w1 ⟨rfl, hx⟩
    have X1 := hid hx
    clear hx
    go_wp2_with fail
    refine Calls.mono (deltaBegun_any _) ?_
    rintro e w2 ⟨rfl, hx⟩
    replace X1 := hid (X1.out.then hx)
    clear hx
    go_wp2_with fail
    refine Calls.mono (H2.out _) ?_
    rintro e w3 ⟨B, c, rfl, hrd, hx⟩
    replace X1 := hid (X1.out.then hx)
    have HR2 := hid hrd
    clear hx hrd
    go_wp2_with fail
    refine Calls.mono (sameNums_self l _ _ n _ _ _ HN.out HR2.out (HR.out.keep X1.out) (by have := HN64.out; omega)) ?_
    rintro e w4 ⟨rfl, hx⟩
    replace X1 := hid (X1.out.then hx)
    clear hx
    go_wp2
    go_returns
    exact ⟨rfl, X1.out⟩
set_option maxHeartbeats 1000000 in
theorem deltaBack_walk (l : List Nat) (A : Option Addr) (n cap m : Nat) (w : World) (hn : l.length = n) (hr : Rd w A (u64s l)) (hl : ∀ x ∈ l, x < 18446744073709551616) (hnl : n ≤ 9223372036854775806) (hm : m < 18446744073709551616) :
    Calls Try.prog 15 #[.slice A n cap, .int .u64 m] w fun e w' => e = .returned (.bool true) ∧ Ext w w' := by
  have HZ1 := hid (fun wx => zig_any m wx hm)
  have HZ2 := hid (fun wx => zag_any (Dlt.zig m) wx (Dlt.zig_lt m hm))
  have HZ3 := hid (fun wx => zag_any m wx hm)
  have HZ4 := hid (fun wx => zig_any (Dlt.zag m) wx (Dlt.zag_lt m hm))
  rw [Dlt.zag_zig m hm] at HZ2
  rw [Dlt.zig_zag m hm] at HZ4
  obtain ⟨zi, hzi⟩ : ∃ zi, zi = Dlt.zig m := ⟨_, rfl⟩
  obtain ⟨za, hza⟩ : ∃ za, za = Dlt.zag m := ⟨_, rfl⟩
  have hziI : (zi : Int) ≤ 18446744073709551615 := by have := Dlt.zig_lt m hm; omega
  have hzaI : (za : Int) ≤ 18446744073709551615 := by have := Dlt.zag_lt m hm; omega
  have hmI : (m : Int) ≤ 18446744073709551615 := by omega
  rw [← hzi] at HZ1 HZ2
  rw [← hza] at HZ3 HZ4
  clear hzi hza hm
  have H1 := hid (diffs_any l A n cap w hn hr hl hnl)
  have H2 := hid (fun wx (hx : Ext w wx) => sums_any l A n cap wx hn (hr.keep hx) hl hnl)
  unfold Dlt.df NumsCap at H1
  unfold Dlt.sm NumsCap at H2
  have hnI : (n : Int) ≤ 9223372036854775806 := by omega
  by_cases h64 : 64 < n
  · rw [if_pos (by omega)] at H1 H2
    have h64I : (64 : Int) < (n : Int) := by omega
    clear hr hl hn hnl h64
    go_enter Try.func15, Try.ntmps15
    go_wp2_with fail
    refine Calls.mono H1.out ?_
    rintro e w1 ⟨B1, c1, rfl, _, hx, _⟩
    have X1 := hid hx
    clear hx
    go_wp2_with fail
    refine Calls.mono (H2.out _ X1.out) ?_
    rintro e w2 ⟨B2, c2, rfl, _, hx, _⟩
    replace X1 := hid (X1.out.then hx)
    clear hx
    go_wp2_with fail
    refine Calls.mono (deltaBegun_any _) ?_
    rintro e w3 ⟨rfl, hx⟩
    replace X1 := hid (X1.out.then hx)
    clear hx
    go_wp2_with fail
    refine Calls.mono (HZ1.out _) ?_
    rintro e _ ⟨rfl, rfl⟩
    go_wp2_with fail
    refine Calls.mono (HZ2.out _) ?_
    rintro e _ ⟨rfl, rfl⟩
    go_wp2_with fail
    refine Calls.mono (HZ3.out _) ?_
    rintro e _ ⟨rfl, rfl⟩
    go_wp2_with fail
    refine Calls.mono (HZ4.out _) ?_
    rintro e _ ⟨rfl, rfl⟩
    go_wp2
    go_returns
    exact ⟨rfl, X1.out⟩
  · rw [if_neg (by omega)] at H1 H2
    have hdl : (Dlt.difs 0 l).length = n := by rw [Dlt.difs_len, hn]
    have hsl : (Dlt.sums 0 l).length = n := by rw [Dlt.sums_len, hn]
    have hd2 : Dlt.sm (Dlt.difs 0 l) = (l, 0) := by unfold Dlt.sm; rw [if_neg (by rw [hdl]; exact h64), Dlt.sums_difs 0 l (by decide) hl]
    have hs2 : Dlt.df (Dlt.sums 0 l) = (l, 0) := by unfold Dlt.df; rw [if_neg (by rw [hsl]; exact h64), Dlt.difs_sums 0 l (by decide) hl]
    have H3 := hid (fun B c wx h => dSums_of (Dlt.difs 0 l) l 0 B n c wx hdl h (Dlt.difs_lt 0 l) hnl hd2)
    have H4 := hid (fun B c wx h => dDiffs_of (Dlt.sums 0 l) l 0 B n c wx hsl h (Dlt.sums_lt 0 l) hnl hs2)
    rw [hn] at H3 H4
    obtain ⟨D, hD⟩ : ∃ D, D = Dlt.difs 0 l := ⟨_, rfl⟩
    obtain ⟨S, hS⟩ : ∃ S, S = Dlt.sums 0 l := ⟨_, rfl⟩
    rw [← hD] at H1 H3 hdl
    rw [← hS] at H2 H4 hsl
    simp only at H1 H2
    rw [hdl] at H1
    rw [hsl] at H2
    have HN := hid hn
    have HR := hid hr
    have HN64 := hid (show n ≤ 64 by omega)
    clear hr hl hn hnl h64 hdl hsl hd2 hs2 hD hS
    go_enter Try.func15, Try.ntmps15
    go_wp2_with fail
    refine Calls.mono H1.out ?_
    rintro e w1 ⟨B1, c1, rfl, hr1, hx, _⟩
    have X1 := hid hx
    have R1 := hid hr1
    clear hx hr1
    go_wp2_with fail
    refine Calls.mono (H2.out _ X1.out) ?_
    rintro e w2 ⟨B2, c2, rfl, hr2, hx, _⟩
    replace X1 := hid (X1.out.then hx)
    replace R1 := hid (R1.out.keep hx)
    have R2 := hid hr2
    clear hx hr2
    go_wp2_with fail
    refine Calls.mono (deltaBegun_any _) ?_
    rintro e w3 ⟨rfl, hx⟩
    replace X1 := hid (X1.out.then hx)
    replace R1 := hid (R1.out.keep hx)
    replace R2 := hid (R2.out.keep hx)
    clear hx
    go_wp2_with fail
    refine Calls.mono (HZ1.out _) ?_
    rintro e _ ⟨rfl, rfl⟩
    go_wp2_with fail
    refine Calls.mono (HZ2.out _) ?_
    rintro e _ ⟨rfl, rfl⟩
    go_wp2_with fail
    refine Calls.mono (HZ3.out _) ?_
    rintro e _ ⟨rfl, rfl⟩
    go_wp2_with fail
    refine Calls.mono (HZ4.out _) ?_
    rintro e _ ⟨rfl, rfl⟩
    go_wp2_with fail
    refine Calls.mono (H3.out _ _ _ R1.out) ?_
    rintro e w4 ⟨B3, c3, rfl, hr3, hx⟩
    replace X1 := hid (X1.out.then hx)
    replace R2 := hid (R2.out.keep hx)
    have R3 := hid hr3
    clear hx hr3
    go_wp2_with fail
    refine Calls.mono (H4.out _ _ _ R2.out) ?_
    rintro e w5 ⟨B4, c4, rfl, hr4, hx⟩
    replace X1 := hid (X1.out.then hx)
    replace R3 := hid (R3.out.keep hx)
    have R4 := hid hr4
    clear hx hr4
    go_wp2_with fail
    refine Calls.mono (sameNums_self l _ _ n _ _ _ HN.out R3.out (HR.out.keep X1.out) (by have := HN64.out; omega)) ?_
    rintro e w6 ⟨rfl, hx⟩
    replace X1 := hid (X1.out.then hx)
    replace R4 := hid (R4.out.keep hx)
    clear hx
    go_wp2_with fail
    refine Calls.mono (sameNums_self l _ _ n _ _ _ HN.out R4.out (HR.out.keep X1.out) (by have := HN64.out; omega)) ?_
    rintro e w7 ⟨rfl, hx⟩
    replace X1 := hid (X1.out.then hx)
    clear hx
    go_wp2
    go_returns
    exact ⟨rfl, X1.out⟩
end Go.Proofs.Ytdblegdbfdhepaa
