/- Hybrid: the law Short: walk. -/
import Derived.Test.YtdblegdbfdhepaaHyk
namespace Go.Proofs.Ytdblegdbfdhepaa
open Go.RowKit Hy
set_option maxHeartbeats 1000000 in
theorem hybridShort_walk (l : List Nat) (A : Option Addr) (n cap : Nat) (wd : Int) (w : World) (hn : l.length = n) (hr : Rd w A (u64s l)) (hcap : n ≤ cap) (hl : ∀ x ∈ l, x < 18446744073709551616) (hnl : n ≤ 9223372036854775806) :
    Calls Try.prog 7 #[.slice A n cap, .int .i64 wd] w fun e w' => e = .returned (.bool true) ∧ Ext w w' := by
  have H1 := hid (hyWrite_any l A n cap wd w hn hr hcap hl hnl)
  by_cases h0 : (Bits.pk l wd).2 = 0
  · obtain ⟨c1, c2, c3, c4, c5⟩ := Bits.pk_ok h0 hl
    have H2 := hid (fun wx (hx : Ext w wx) => pack_any l A n cap wd wx hn (hr.keep hx) hl hnl)
    have hw := Hyb.wrt_ok h0
    obtain ⟨k, rfl⟩ := Int.eq_ofNat_of_zero_le c1
    rw [Int.toNat_natCast] at c4 c5 hw
    rw [hw] at H1
    rw [c5] at H2
    have hlen := Hyb.raw_len l k (by omega) c3
    have hone := Hyb.raw_one l k (by omega)
    have hpl := Bits.packed_len l k
    have hsz : Bits.size l.length k ≤ 512 := by unfold Bits.size; have := Nat.mul_le_mul c3 (show k ≤ 64 by omega); omega
    obtain ⟨V, hV⟩ : ∃ V : ByteArray, V = ⟨(Hyb.raw l k).toArray⟩ := ⟨_, rfl⟩
    obtain ⟨Q, hQ⟩ : ∃ Q : ByteArray, Q = ⟨(Bits.packed l k).toArray⟩ := ⟨_, rfl⟩
    have hVs : V.size = (Hyb.raw l k).length := by rw [hV, str_size]
    have hQs : Q.size = (Bits.packed l k).length := by rw [hQ, str_size]
    have HONE := hid (show 8 ≤ n → (∀ j, j < n → l[j]? = l[0]?) → V.size ≤ 10 from fun h8 h => by
      rw [hVs]; exact hone (by omega) c3 (Hyb.row_end l (by omega) (by rw [hn]; exact h)))
    rw [← hV] at H1
    rw [← hQ] at H2
    have hVI : (V.size : Int) ≤ (Q.size : Int) + (k : Int) + (n : Int) / 4 + 2 := by omega
    have hQI : (Q.size : Int) ≤ 512 := by omega
    have hVI2 : (V.size : Int) ≤ 1000 := by omega
    have hkI : (k : Int) ≤ 64 := c2
    have HN := hid hn
    have HR := hid hr
    have hnI : (n : Int) ≤ 64 := by omega
    clear hV hQ hr hl hn hcap hnl h0 c1 c2 c3 c4 c5 hw hlen hone hpl hsz hVs hQs
    go_enter Try.func7, Try.ntmps7
    go_wp2_with fail
    refine Calls.mono H1.out ?_
    rintro e w1 ⟨rfl, b1⟩
    have X1 := hid b1
    clear b1
    go_wp2_with fail
    refine Calls.mono (hybridBegun_any _) ?_
    rintro e w4 ⟨rfl, hx⟩
    replace X1 := hid (X1.out.then hx)
    clear hx
    go_wp2_with fail
    refine Calls.mono (H2.out _ X1.out) ?_
    rintro e w5 ⟨rfl, hx⟩
    replace X1 := hid (X1.out.then hx)
    clear hx
    go_wp2
    go_loopw [9, 10] (fun o c wr => ∃ (i : Nat) (b : Bool), i ≤ n + 1 ∧ 1 ≤ i ∧ c = .int .i64 i ∧ o = .bool b ∧ Hid (b = true → 8 ≤ n ∧ ∀ j, j < i → l[j]? = l[0]?) ∧ Ext w wr) (fun _ c _ => n + 1 - (intOf c).toNat)
    case atStart => exact ⟨1, _, by omega, by omega, rfl, rfl, hid (fun h => ⟨by have := of_decide_eq_true h; omega, fun j hj => by rw [show j = 0 by omega]⟩), X1.out⟩
    case round =>
      obtain ⟨i, b, hi, hi1, rfl, rfl, HB, X⟩ := hrel
      have HI1 := hid hi1
      clear hi1
      by_cases hlt : i < n
      · have hltI : (i : Int) < (n : Int) := by omega
        have hn0 : (0 : Int) < (n : Int) := by omega
        cases b with
        | true =>
          obtain ⟨b1, o1, rfl, l1, c1⟩ := HR.out.num0 (by rw [HN.out]; omega)
          obtain ⟨y, hy⟩ : ∃ y, l[0]? = some y := ⟨_, List.getElem?_eq_getElem (by rw [HN.out]; omega)⟩
          obtain ⟨x, hx⟩ : ∃ x, l[i]? = some x := ⟨_, List.getElem?_eq_getElem (by rw [HN.out]; omega)⟩
          have d0 := (X.cell (p := ⟨b1, o1 + 0, none⟩) l1).trans (c1 0 y hy)
          rw [Nat.add_zero] at d0
          have d1 := (X.cell (p := ⟨b1, o1 + i, none⟩) l1).trans (c1 i x hx)
          have HX := hid hx
          have HY := hid hy
          clear c1 hx hy
          by_cases hxy : x = y
          · subst hxy
            have hb : ((x : Int) == (x : Int)) = true := by simp
            go_wp2_with fail
            go_quiet (fail)
            go_wp2
            go_roundw
            case rel => exact ⟨i + 1, true, by omega, by omega, by go_num, rfl, hid (fun _ => ⟨(HB.out (by trivial)).1, fun j hj => by
              rcases Nat.lt_or_ge j i with h | h
              · exact (HB.out (by trivial)).2 j h
              · rw [show j = i by omega, HX.out, HY.out]⟩), X.draws _⟩
            case measure => simp [intOf]; omega
          · have hb : ((x : Int) == (y : Int)) = false := by rw [beq_eq_false_iff_ne]; omega
            go_wp2_with fail
            go_quiet (fail)
            go_wp2
            go_roundw
            case rel => exact ⟨i + 1, false, by omega, by omega, by go_num, rfl, hid (fun h => by cases h), X.draws _⟩
            case measure => simp [intOf]; omega
        | false =>
          go_wp2_with fail
          go_quiet (fail)
          go_wp2
          go_roundw
          case rel => exact ⟨i + 1, false, by omega, by omega, by go_num, rfl, hid (fun h => by cases h), X.draws _⟩
          case measure => simp [intOf]; omega
      · have hge : (n : Int) ≤ (i : Int) := by omega
        cases b with
        | true =>
          have h10 : (V.size : Int) ≤ 10 := by
            have := HONE.out (HB.out (by trivial)).1 (fun j hj => (HB.out (by trivial)).2 j (by omega)); omega
          clear hlt
          go_wp2
          go_returns
          exact ⟨rfl, X⟩
        | false =>
          clear hlt
          go_wp2
          go_returns
          exact ⟨rfl, X⟩
  · have hw := Hyb.wrt_bad h0
    rw [hw] at H1
    obtain ⟨er, he⟩ : ∃ er, er = (Bits.pk l wd).2 := ⟨_, rfl⟩
    rw [← he] at H1 h0
    have h3 : ((er : Int) != 0) = true := by rw [bne_iff_ne]; omega
    have h4 : ((er : Int) == 0) = false := by rw [beq_eq_false_iff_ne]; omega
    clear he hw hr hl hn hcap hnl h0
    go_enter Try.func7, Try.ntmps7
    go_wp2_with fail
    refine Calls.mono H1.out ?_
    rintro e w1 ⟨rfl, b1⟩
    have X1 := hid b1
    clear b1
    go_wp2_with fail
    refine Calls.mono (hybridBegun_any _) ?_
    rintro e w4 ⟨rfl, hx⟩
    replace X1 := hid (X1.out.then hx)
    clear hx
    go_wp2
    go_returns
    exact ⟨rfl, X1.out⟩
end Go.Proofs.Ytdblegdbfdhepaa
