/- Delta: the document's DiffsOf, SumsOf, ZigOf, ZagOf: walks. -/
import Derived.Test.YtdblegdbfdhepaaDld
namespace Hy
open Go
theorem take_succ_snoc {l : List Nat} {i x : Nat} (hx : l[i]? = some x) : l.take (i + 1) = l.take i ++ [x] := by rw [List.take_add_one, hx]; rfl
end Hy
namespace Go.Proofs.Ytdblegdbfdhepaa
open Go.RowKit Hy
set_option maxRecDepth 100000 in
set_option maxHeartbeats 400000 in
theorem zigOf_any (n : Nat) (w : World) (hn : n < 18446744073709551616) : Calls Try.prog 45 #[.int .u64 n] w fun e w' => e = .returned (.int .u64 (Dlt.zig n : Nat)) ∧ w = w' := by
  have hnI : (n : Int) ≤ 18446744073709551615 := by omega
  by_cases h : n < 9223372036854775808
  · have hz := hid (Dlt.zig_lo h)
    have hI : (n : Int) < 9223372036854775808 := by omega
    clear hn h
    go_enter Try.func45, Try.ntmps45
    go_wp2
    go_returns
    exact ⟨by rw [hz.out]; go_num, rfl⟩
  · have hz := hid (Dlt.zig_hi h)
    obtain ⟨j, hj⟩ : ∃ j : Nat, n = j + 9223372036854775808 := ⟨n - 9223372036854775808, by omega⟩
    have hI : decide ((n : Int) < 9223372036854775808) = false := by rw [decide_eq_false_iff_not]; omega
    obtain ⟨d, hd⟩ : ∃ d, d = 18446744073709551616 - n := ⟨_, rfl⟩
    obtain ⟨u, hu⟩ : ∃ u, u = 2 * d % 18446744073709551616 := ⟨_, rfl⟩
    obtain ⟨r, hr⟩ : ∃ r, r = 2 * (18446744073709551616 - n) - 1 := ⟨_, rfl⟩
    have e1 : IntKind.u64.wrap (0 - (n : Int)) = (d : Int) := by rw [IntKind.wrap_u64]; omega
    have e2 : IntKind.u64.wrap (-(n : Int)) = (d : Int) := by rw [IntKind.wrap_u64]; omega
    have e3 : IntKind.u64.wrap (2 * (d : Int)) = (u : Int) := by rw [IntKind.wrap_u64]; omega
    have e4 : IntKind.u64.wrap ((u : Int) - 1) = (r : Int) := by rw [IntKind.wrap_u64]; omega
    have HR := hid hr
    clear h hd hu hr hn hj hnI
    go_enter Try.func45, Try.ntmps45
    go_wp2
    go_returns
    exact ⟨by rw [hz.out, ← HR.out]; rfl, rfl⟩
set_option maxHeartbeats 400000 in
theorem zagOf_any (n : Nat) (w : World) (hn : n < 18446744073709551616) : Calls Try.prog 47 #[.int .u64 n] w fun e w' => e = .returned (.int .u64 (Dlt.zag n : Nat)) ∧ w = w' := by
  have hnI : (n : Int) ≤ 18446744073709551615 := by omega
  obtain ⟨q, hq⟩ : ∃ q, q = n / 2 := ⟨_, rfl⟩
  have hq1 : (n : Int) / 2 = (q : Int) := by omega
  have hq2 : (n : Int).tdiv 2 = (q : Int) := by rw [Int.tdiv_eq_ediv_of_nonneg (by omega)]; omega
  have hqI : (q : Int) ≤ 9223372036854775807 := by omega
  by_cases h : n % 2 = 0
  · have hz := hid (Dlt.zag_ev h)
    have h1 : (n : Int) % 2 = 0 := by omega
    have h2 : (n : Int).tmod 2 = 0 := by rw [Int.tmod_eq_emod_of_nonneg (by omega)]; omega
    have HQ := hid hq
    clear hn h hq
    go_enter Try.func47, Try.ntmps47
    go_wp2
    go_returns
    exact ⟨by rw [hz.out, ← HQ.out]; rfl, rfl⟩
  · have hz := hid (Dlt.zag_od h)
    have h1 : (n : Int) % 2 = 1 := by omega
    have h2 : (n : Int).tmod 2 = 1 := by rw [Int.tmod_eq_emod_of_nonneg (by omega)]; omega
    have HQ := hid hq
    obtain ⟨r, hr⟩ : ∃ r, r = 18446744073709551616 - (q + 1) := ⟨_, rfl⟩
    have e1 : IntKind.u64.wrap (0 - ((q : Int) + 1)) = (r : Int) := by rw [IntKind.wrap_u64]; omega
    have e2 : IntKind.u64.wrap (-((q : Int) + 1)) = (r : Int) := by rw [IntKind.wrap_u64]; omega
    have e3 : IntKind.u64.wrap (-1 - (q : Int)) = (r : Int) := by rw [IntKind.wrap_u64]; omega
    have e4 : IntKind.u64.wrap (-(q : Int) - 1) = (r : Int) := by rw [IntKind.wrap_u64]; omega
    have HR := hid hr
    clear hn h hq hr
    go_enter Try.func47, Try.ntmps47
    go_wp2
    go_returns
    exact ⟨by rw [hz.out, ← HQ.out, ← HR.out]; rfl, rfl⟩
set_option maxRecDepth 100000 in
set_option maxHeartbeats 1600000 in
theorem diffsOf_any (l : List Nat) (A : Option Addr) (n cap : Nat) (w : World) (hn : l.length = n) (hr : Rd w A (u64s l)) (hl : ∀ x ∈ l, x < 18446744073709551616) (hnl : n ≤ 2000000) :
    Calls Try.prog 41 #[.slice A n cap] w fun e w' => ∃ B c, e = .returned (.slice B n c) ∧ Rd w' B (u64s (Dlt.difs 0 l)) ∧ Ext w w' := by
  have hnI : (n : Int) ≤ 2000000 := by omega
  have HR := hid hr
  have HN := hid hn
  have HL := hid hl
  have HNL := hid hnl
  clear hr hn hl hnl
  go_enter Try.func41, Try.ntmps41
  go_wp2
  go_loopw [3, 4] (fun v c wr => ∃ i : Nat, i ≤ n ∧ c = .int .i64 i ∧ Hid (wr.ownsRow w.heap.size 33 1 v i (u64s (Dlt.difs 0 (l.take i)))) ∧ Ext w wr) (fun _ c _ => n - (intOf c).toNat)
  case atStart => exact ⟨0, Nat.zero_le _, rfl, hid (World.ownsRow_nil _ _ _ _), ext_refl _⟩
  case round =>
    obtain ⟨i, hi, rfl, HO, X⟩ := hrel
    by_cases hlt : i < n
    · have hltI : (i : Int) < (n : Int) := by omega
      obtain ⟨x, hx⟩ : ∃ x, l[i]? = some x := ⟨_, List.getElem?_eq_getElem (by rw [HN.out]; exact hlt)⟩
      have hxl := HL.out x (List.mem_of_getElem? hx)
      obtain ⟨b1, o1, rfl, l1, c1⟩ := HR.out.num0 (by rw [HN.out]; omega)
      have d0 := (X.cell (p := ⟨b1, o1 + i, none⟩) l1).trans (c1 i x hx)
      have hxI : (x : Int) ≤ 18446744073709551615 := by omega
      have HK := hid (show i ≤ 2000000 by have := HNL.out; omega)
      rcases Nat.eq_zero_or_pos i with h0 | h0
      · subst h0
        rw [Nat.add_zero] at d0
        have HS := hid (show Dlt.difs 0 (l.take (0 + 1)) = Dlt.difs 0 (l.take 0) ++ [x] by
          rw [take_succ_snoc hx, Dlt.difs_snoc]; show _ ++ [Dlt.sb x 0] = _; rw [Dlt.sb_zero x hxl])
        generalize Dlt.difs 0 (l.take 0) = L at *
        clear c1 hx hxl
        go_wp2_with (at_builtin; refine wpList_app rfl (.tmp 13) (.tmp 17) rowU64 rfl _ 0 _ rfl (own_ext HO.out ((ext_refl _).new _)) _ 1 (u64s [x]) rfl (Src.rd Try.underlying22 _ 1 1 _ rfl (rd_lit rfl rfl) (u64s_one _) (fun h => by cases h)) (by unfold maxLen; omega) (by omega) (by have := X.size; simp; omega) ?_; intro v' w3 hown3 hgrow hat hbel; have O3 := hid hown3; have X3 := hid ((X.new _).trans hbel); clear hown3 hgrow hat hbel)
        go_roundw
        case rel => exact ⟨1, by omega, by go_num, hid (by rw [HS.out, u64s_app]; exact O3.out), X3.out⟩
        case measure => simp [intOf]; omega
      · obtain ⟨j, rfl⟩ : ∃ j, i = j + 1 := ⟨i - 1, by omega⟩
        obtain ⟨y, hy⟩ : ∃ y, l[j]? = some y := ⟨_, List.getElem?_eq_getElem (by rw [HN.out]; omega)⟩
        have hyl := HL.out y (List.mem_of_getElem? hy)
        have d1 := (X.cell (p := ⟨b1, o1 + j, none⟩) l1).trans (c1 j y hy)
        have hyI : (y : Int) ≤ 18446744073709551615 := by omega
        have HS := hid (show Dlt.difs 0 (l.take (j + 1 + 1)) = Dlt.difs 0 (l.take (j + 1)) ++ [Dlt.sb x y] by
          rw [take_succ_snoc hx, Dlt.difs_snoc, take_succ_snoc hy, Dlt.lst_snoc])
        have hz := Dlt.sb_int x y hyl
        have hzl := Dlt.sb_lt x y
        generalize Dlt.sb x y = z at *
        have hzI : (z : Int) ≤ 18446744073709551615 := by omega
        have hne : (((j + 1 : Nat) : Int) == 0) = false := by rw [beq_eq_false_iff_ne]; omega
        have hj1 : (((j + 1 : Nat) : Nat) : Int) - 1 = (j : Int) := by omega
        have hwj : IntKind.i64.wrap (((j + 1 : Nat) : Int) - 1) = (j : Int) := by rw [IntKind.wrap_i64]; have := HK.out; omega
        have hwj2 : IntKind.i64.wrap (j : Int) = (j : Int) := by rw [IntKind.wrap_i64]; have := HK.out; omega
        generalize Dlt.difs 0 (l.take (j + 1)) = L at *
        have HX := hid X
        obtain ⟨A3, c3, rfl, _⟩ := Rd.owned HO.out
        clear c1 hx hxl hy hyl hzl X
        have d0r := cell_regrown d0
        have d1r := cell_regrown d1
        go_wp2
        refine wp_region_late [12] [13] [(0, true), (1, true), (2, true), (3, true), (4, true), (5, true), (6, true), (7, true), (8, true), (9, true), (10, true), (11, false), (12, false), (13, true)] (by kernel_rfl) (by kernel_rfl) (fun _ _ _ _ _ h => h) (by kernel_rfl) (by rfl) ?_
        simp only [List.filterMap_cons, List.filterMap_nil, List.getElem?_toArray, List.getElem?_cons_zero, List.getElem?_cons_succ, Option.map_some, List.contains_cons, List.contains_nil, Nat.reduceBEq, Bool.or_false]
        repeat ((first | refine wpL_val (by rfl) ?_ | refine wpL_pure (by rfl) ?_); intro K hK; go_big_quiet_op; go_big_quiet_on)
        refine wpL_do (by rfl) ?_
        intro K hK
        go_simp
        have Y1 : Ext wr (wr.drew.alloc (.cells #[.int .u64 (z : Int)] 33)) := Ext.new (Ext.draw (ext_refl wr)) _
        refine hK _ _ Y1 ?_
        clear K hK
        refine wpL_late (by rfl) ?_
        intro K hK
        refine wp_app (.tmp 19) (.tmp 30) rowU64 rfl _ (j + 1) (u64s L) rfl (own_ext HO.out Y1) _ 1 (u64s [z]) rfl (Src.rd Try.underlying22 _ 1 1 _ rfl (rd_lit rfl rfl) (u64s_one _) (fun h => by cases h)) (by have := HK.out; unfold maxLen; omega) (by have := HK.out; omega) (by have := HX.out.size; simp; omega) ?_
        intro v3 w3 hown3 hgr3 hat3 hbel3
        refine hK _ _ ?_
        clear K hK
        obtain ⟨C3, k3, rfl, _⟩ := Rd.owned hown3
        have HO3 := hid hown3
        have HX3 : Hid (Ext w w3) := hid ((HX.out.then Y1).trans hbel3)
        clear hown3 hgr3 hat3 hbel3 d0 d1 d0r d1r
        simp only [Act.put, List.setIfInBounds_toArray, List.set_cons_succ, List.set_cons_zero]
        repeat (refine wpL_pure (by rfl) ?_; intro K hK; go_big_quiet_op; go_big_quiet_on)
        refine wpL_nil ?_
        go_wp2
        go_roundw
        case rel => exact ⟨j + 1 + 1, by omega, by go_num, hid (by rw [HS.out, u64s_app]; exact HO3.out), HX3.out⟩
        case measure => simp [intOf]; omega
    · obtain rfl : i = n := by omega
      obtain ⟨B, c, rfl, hrd, _⟩ := Rd.owned HO.out
      have hti : l.take i = l := List.take_of_length_le (by rw [HN.out]; exact Nat.le_refl _)
      rw [hti] at hrd
      have HRD := hid hrd
      clear hrd hti
      go_wp2
      go_returns
      exact ⟨B, c, rfl, HRD.out, X⟩
set_option maxHeartbeats 1600000 in
theorem sumsOf_any (l : List Nat) (A : Option Addr) (n cap : Nat) (w : World) (hn : l.length = n) (hr : Rd w A (u64s l)) (hl : ∀ x ∈ l, x < 18446744073709551616) (hnl : n ≤ 2000000) :
    Calls Try.prog 42 #[.slice A n cap] w fun e w' => ∃ B c, e = .returned (.slice B n c) ∧ Rd w' B (u64s (Dlt.sums 0 l)) ∧ Ext w w' := by
  have hnI : (n : Int) ≤ 2000000 := by omega
  have HR := hid hr
  have HN := hid hn
  have HL := hid hl
  have HNL := hid hnl
  clear hr hn hl hnl
  go_enter Try.func42, Try.ntmps42
  go_wp2
  go_loopw [3, 4, 5, 6] (fun v c _ _ wr => ∃ i : Nat, i ≤ n ∧ c = .int .i64 i ∧ Hid (wr.ownsRow w.heap.size 33 1 v i (u64s (Dlt.sums 0 (l.take i)))) ∧ Ext w wr) (fun _ c _ _ _ => n - (intOf c).toNat)
  case atStart => exact ⟨0, Nat.zero_le _, rfl, hid (World.ownsRow_nil _ _ _ _), ext_refl _⟩
  case round =>
    obtain ⟨i, hi, rfl, HO, X⟩ := hrel
    by_cases hlt : i < n
    · have hltI : (i : Int) < (n : Int) := by omega
      obtain ⟨x0, hx0⟩ : ∃ x, l[i]? = some x := ⟨_, List.getElem?_eq_getElem (by rw [HN.out]; exact hlt)⟩
      have HS := hid (show Dlt.sums 0 (l.take (i + 1)) = Dlt.sums 0 (l.take i) ++ [Dlt.tot 0 (l.take (i + 1))] by
        rw [take_succ_snoc hx0, Dlt.sums_snoc, Dlt.tot_snoc])
      have HK := hid (show i ≤ 2000000 by have := HNL.out; omega)
      obtain ⟨b1, o1, rfl, l1, c1⟩ := HR.out.num0 (by rw [HN.out]; omega)
      have C1 := hid c1
      have HX := hid X
      obtain ⟨A3, c3, rfl, _⟩ := Rd.owned HO.out
      clear hx0 c1 X
      go_wp2
      go_loopw [5, 6] (fun t c wx => ∃ k : Nat, k ≤ i + 1 ∧ c = .int .i64 k ∧ t = .int .u64 ((Dlt.tot 0 (l.take k) : Nat) : Int) ∧ wx = wr) (fun _ c _ => i + 1 - (intOf c).toNat)
      case atStart => exact ⟨0, Nat.zero_le _, rfl, rfl, rfl⟩
      case round =>
        obtain ⟨k, hk, rfl, rfl, rfl⟩ := hrel
        by_cases hki : k ≤ i
        · have hkI : (k : Int) ≤ (i : Int) := by omega
          obtain ⟨x, hx⟩ : ∃ x, l[k]? = some x := ⟨_, List.getElem?_eq_getElem (by rw [HN.out]; omega)⟩
          have hxl := HL.out x (List.mem_of_getElem? hx)
          have d0 := (HX.out.cell (p := ⟨b1, o1 + k, none⟩) l1).trans (C1.out k x hx)
          have HT := hid (show Dlt.tot 0 (l.take (k + 1)) = Dlt.ad (Dlt.tot 0 (l.take k)) x by rw [take_succ_snoc hx, Dlt.tot_snoc])
          have hp := Dlt.tot_lt 0 (l.take k) (by decide)
          have hz := Dlt.ad_int (Dlt.tot 0 (l.take k)) x
          have hzl := Dlt.ad_lt (Dlt.tot 0 (l.take k)) x
          generalize Dlt.tot 0 (l.take k) = p at *
          have hpI : (p : Int) ≤ 18446744073709551615 := by omega
          have hxI : (x : Int) ≤ 18446744073709551615 := by omega
          obtain ⟨z, hzz⟩ : ∃ z, z = Dlt.ad p x := ⟨_, rfl⟩
          rw [← hzz] at hz hzl HT
          have hzI : (z : Int) ≤ 18446744073709551615 := by omega
          clear hx hxl hp hzl hzz
          go_wp2
          go_roundw
          case rel => exact ⟨k + 1, by omega, by go_num, by rw [HT.out], trivial⟩
          case measure => simp [intOf]; omega
        · obtain rfl : k = i + 1 := by omega
          have hp := Dlt.tot_lt 0 (l.take (i + 1)) (by decide)
          generalize Dlt.tot 0 (l.take (i + 1)) = p at *
          have hpI : (p : Int) ≤ 18446744073709551615 := by omega
          have hgeI : ¬ ((i + 1 : Nat) : Int) ≤ (i : Int) := by omega
          clear hp
          go_wp2_with (at_builtin; refine wpList_app rfl (.tmp 24) (.tmp 26) rowU64 rfl _ i _ rfl (own_ext HO.out ((ext_refl _).new _)) _ 1 (u64s [p]) rfl (Src.rd Try.underlying22 _ 1 1 _ rfl (rd_lit rfl rfl) (u64s_one _) (fun h => by cases h)) (by have := HK.out; unfold maxLen; omega) (by have := HK.out; omega) (by have := HX.out.size; simp; omega) ?_; intro v' w3 hown3 hgrow hat hbel; have O3 := hid hown3; have X3 := hid ((HX.out.new _).trans hbel); clear hown3 hgrow hat hbel)
          go_roundw
          case rel => exact ⟨i + 1, by omega, by go_num, hid (by rw [HS.out, u64s_app]; exact O3.out), X3.out⟩
          case measure => simp [intOf]; omega
    · obtain rfl : i = n := by omega
      obtain ⟨B, c, rfl, hrd, _⟩ := Rd.owned HO.out
      have hti : l.take i = l := List.take_of_length_le (by rw [HN.out]; exact Nat.le_refl _)
      rw [hti] at hrd
      have HRD := hid hrd
      clear hrd hti
      go_wp2
      go_returns
      exact ⟨B, c, rfl, HRD.out, X⟩
end Go.Proofs.Ytdblegdbfdhepaa
