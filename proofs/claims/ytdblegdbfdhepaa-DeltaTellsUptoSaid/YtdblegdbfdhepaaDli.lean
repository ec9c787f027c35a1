/- Delta: the law Tells: walk. -/
import Derived.Test.YtdblegdbfdhepaaDlh
namespace Go.Proofs.Ytdblegdbfdhepaa
open Go.RowKit Hy
set_option maxHeartbeats 1000000 in
theorem deltaTells_walk (l : List Nat) (A : Option Addr) (n cap m : Nat) (w : World) (hn : l.length = n) (hr : Rd w A (u64s l)) (hl : ∀ x ∈ l, x < 18446744073709551616) (hnl : n ≤ 2000000) (hm : m < 18446744073709551616) :
    Calls Try.prog 14 #[.slice A n cap, .int .u64 m] w fun e w' => e = .returned (.bool true) ∧ Ext w w' := by
  have HZ1 := hid (fun wx => zig_any m wx hm)
  have HZ2 := hid (fun wx => zigOf_any m wx hm)
  have HZ3 := hid (fun wx => zag_any m wx hm)
  have HZ4 := hid (fun wx => zagOf_any m wx hm)
  obtain ⟨zi, hzi⟩ : ∃ zi, zi = Dlt.zig m := ⟨_, rfl⟩
  obtain ⟨za, hza⟩ : ∃ za, za = Dlt.zag m := ⟨_, rfl⟩
  rw [← hzi] at HZ1 HZ2
  rw [← hza] at HZ3 HZ4
  have hzz : ((zi : Int) == (zi : Int)) = true := by simp
  have hyy : ((za : Int) == (za : Int)) = true := by simp
  have hmI : (m : Int) ≤ 18446744073709551615 := by omega
  clear hzi hza hm
  have H1 := hid (diffs_any l A n cap w hn hr hl (by omega))
  have H2 := hid (fun wx (hx : Ext w wx) => sums_any l A n cap wx hn (hr.keep hx) hl (by omega))
  have H3 := hid (fun wx (hx : Ext w wx) => diffsOf_any l A n cap wx hn (hr.keep hx) hl hnl)
  have H4 := hid (fun wx (hx : Ext w wx) => sumsOf_any l A n cap wx hn (hr.keep hx) hl hnl)
  unfold Dlt.df NumsCap at H1
  unfold Dlt.sm NumsCap at H2
  have hnI : (n : Int) ≤ 2000000 := by omega
  by_cases h64 : 64 < n
  · rw [if_pos (by omega)] at H1 H2
    have h64I : (64 : Int) < (n : Int) := by omega
    clear hr hl hn hnl h64
    go_enter Try.func14, Try.ntmps14
    go_wp2_with fail
    refine Calls.mono H1.out ?_
    rintro e w1 ⟨B1, c1, rfl, _, hx, _⟩
    have X1 := hid hx
    clear hx
    go_wp2_with fail
    refine Calls.mono (H2.out _ X1.out) ?_
    rintro e w2 ⟨B2, c2, rfl, _, hx, _⟩
    replace X1 := hid (X1.out.then hx)
    clear hx
    go_wp2_with fail
    refine Calls.mono (H3.out _ X1.out) ?_
    rintro e w3 ⟨B3, c3, rfl, _, hx⟩
    replace X1 := hid (X1.out.then hx)
    clear hx
    go_wp2_with fail
    refine Calls.mono (H4.out _ X1.out) ?_
    rintro e w4 ⟨B4, c4, rfl, _, hx⟩
    replace X1 := hid (X1.out.then hx)
    clear hx
    go_wp2_with fail
    refine Calls.mono (deltaBegun_any _) ?_
    rintro e w5 ⟨rfl, hx⟩
    replace X1 := hid (X1.out.then hx)
    clear hx
    go_wp2_with fail
    refine Calls.mono (sameNums_self [] _ _ 0 _ _ _ rfl (fun h => by simp [u64s] at h) (fun h => by simp [u64s] at h) (by decide)) ?_
    rintro e w6 ⟨rfl, hx⟩
    replace X1 := hid (X1.out.then hx)
    clear hx
    go_wp2_with fail
    refine Calls.mono (sameNums_self [] _ _ 0 _ _ _ rfl (fun h => by simp [u64s] at h) (fun h => by simp [u64s] at h) (by decide)) ?_
    rintro e w7 ⟨rfl, hx⟩
    replace X1 := hid (X1.out.then hx)
    clear hx
    go_wp2_with fail
    refine Calls.mono (HZ1.out _) ?_
    rintro e _ ⟨rfl, rfl⟩
    go_wp2_with fail
    refine Calls.mono (HZ2.out _) ?_
    rintro e _ ⟨rfl, rfl⟩
    go_wp2_with fail
    refine Calls.mono (HZ3.out _) ?_
    rintro e _ ⟨rfl, rfl⟩
    go_wp2_with fail
    refine Calls.mono (HZ4.out _) ?_
    rintro e _ ⟨rfl, rfl⟩
    go_wp2
    go_returns
    exact ⟨rfl, X1.out⟩
  · rw [if_neg (by omega)] at H1 H2
    have h64I : (n : Int) ≤ 64 := by omega
    have hdl : (Dlt.difs 0 l).length = n := by rw [Dlt.difs_len, hn]
    have hsl : (Dlt.sums 0 l).length = n := by rw [Dlt.sums_len, hn]
    obtain ⟨D, hD⟩ : ∃ D, D = Dlt.difs 0 l := ⟨_, rfl⟩
    obtain ⟨S, hS⟩ : ∃ S, S = Dlt.sums 0 l := ⟨_, rfl⟩
    rw [← hD] at H1 H3 hdl
    rw [← hS] at H2 H4 hsl
    simp only at H1 H2
    rw [hdl] at H1
    rw [hsl] at H2
    have HDL := hid hdl
    have HSL := hid hsl
    have HN64 := hid (show n ≤ 64 by omega)
    clear hr hl hn hnl h64 hdl hsl hD hS
    go_enter Try.func14, Try.ntmps14
    go_wp2_with fail
    refine Calls.mono H1.out ?_
    rintro e w1 ⟨B1, c1, rfl, hr1, hx, _⟩
    have X1 := hid hx
    have R1 := hid hr1
    clear hx hr1
    go_wp2_with fail
    refine Calls.mono (H2.out _ X1.out) ?_
    rintro e w2 ⟨B2, c2, rfl, hr2, hx, _⟩
    replace X1 := hid (X1.out.then hx)
    replace R1 := hid (R1.out.keep hx)
    have R2 := hid hr2
    clear hx hr2
    go_wp2_with fail
    refine Calls.mono (H3.out _ X1.out) ?_
    rintro e w3 ⟨B3, c3, rfl, hr3, hx⟩
    replace X1 := hid (X1.out.then hx)
    replace R1 := hid (R1.out.keep hx)
    replace R2 := hid (R2.out.keep hx)
    have R3 := hid hr3
    clear hx hr3
    go_wp2_with fail
    refine Calls.mono (H4.out _ X1.out) ?_
    rintro e w4 ⟨B4, c4, rfl, hr4, hx⟩
    replace X1 := hid (X1.out.then hx)
    replace R1 := hid (R1.out.keep hx)
    replace R2 := hid (R2.out.keep hx)
    replace R3 := hid (R3.out.keep hx)
    have R4 := hid hr4
    clear hx hr4
    go_wp2_with fail
    refine Calls.mono (deltaBegun_any _) ?_
    rintro e w5 ⟨rfl, hx⟩
    replace X1 := hid (X1.out.then hx)
    replace R1 := hid (R1.out.keep hx)
    replace R2 := hid (R2.out.keep hx)
    replace R3 := hid (R3.out.keep hx)
    replace R4 := hid (R4.out.keep hx)
    clear hx
    go_wp2_with fail
    refine Calls.mono (sameNums_self D _ _ n _ _ _ HDL.out R1.out R3.out (by have := HN64.out; omega)) ?_
    rintro e w6 ⟨rfl, hx⟩
    replace X1 := hid (X1.out.then hx)
    replace R2 := hid (R2.out.keep hx)
    replace R4 := hid (R4.out.keep hx)
    clear hx
    go_wp2_with fail
    refine Calls.mono (sameNums_self S _ _ n _ _ _ HSL.out R2.out R4.out (by have := HN64.out; omega)) ?_
    rintro e w7 ⟨rfl, hx⟩
    replace X1 := hid (X1.out.then hx)
    clear hx
    go_wp2_with fail
    refine Calls.mono (HZ1.out _) ?_
    rintro e _ ⟨rfl, rfl⟩
    go_wp2_with fail
    refine Calls.mono (HZ2.out _) ?_
    rintro e _ ⟨rfl, rfl⟩
    go_wp2_with fail
    refine Calls.mono (HZ3.out _) ?_
    rintro e _ ⟨rfl, rfl⟩
    go_wp2_with fail
    refine Calls.mono (HZ4.out _) ?_
    rintro e _ ⟨rfl, rfl⟩
    go_wp2
    go_returns
    exact ⟨rfl, X1.out⟩
end Go.Proofs.Ytdblegdbfdhepaa
