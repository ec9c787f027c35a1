/- Delta: the law Linear: plain law and walk (printed by gen_dlg.py). -/
import Derived.Test.YtdblegdbfdhepaaDld
namespace Hy.Dlt
open Go
/-- two lists, number by number -/
def adl (a b : List Nat) : List Nat := List.zipWith ad a b
theorem adl_len (a b : List Nat) (h : a.length = b.length) : (adl a b).length = a.length := by unfold adl; rw [List.length_zipWith, h, Nat.min_self]
theorem adl_at {a b : List Nat} {k x y : Nat} (hx : a[k]? = some x) (hy : b[k]? = some y) : (adl a b)[k]? = some (ad x y) := by unfold adl; rw [List.getElem?_zipWith, hx, hy]
theorem adl_lt (a b : List Nat) : ∀ x ∈ adl a b, x < 18446744073709551616 := fun x hx => by
  unfold adl at hx
  obtain ⟨i, hi, rfl⟩ := List.getElem_of_mem hx
  rw [List.getElem_zipWith]; exact ad_lt _ _
theorem adl_take {a b : List Nat} {i x y : Nat} (hx : a[i]? = some x) (hy : b[i]? = some y) : adl (a.take (i + 1)) (b.take (i + 1)) = adl (a.take i) (b.take i) ++ [ad x y] := by
  have h1 := (List.getElem?_eq_some_iff.1 hx).1
  have h2 := (List.getElem?_eq_some_iff.1 hy).1
  unfold adl
  rw [List.take_add_one, List.take_add_one, hx, hy]
  show List.zipWith ad (a.take i ++ [x]) (b.take i ++ [y]) = _
  rw [List.zipWith_append (by rw [List.length_take, List.length_take]; omega)]; rfl
theorem difs_adl : ∀ (a b : List Nat) (p q : Nat), p < 18446744073709551616 → q < 18446744073709551616 → (∀ x ∈ a, x < 18446744073709551616) → (∀ x ∈ b, x < 18446744073709551616) → difs (ad p q) (adl a b) = adl (difs p a) (difs q b)
  | [], _, _, _, _, _, _, _ => rfl
  | _ :: _, [], _, _, _, _, _, _ => rfl
  | x :: a, y :: b, p, q, hp, hq, ha, hb => by
    have ih := difs_adl a b x y (ha x (by simp)) (hb y (by simp)) (fun z hz => ha z (by simp [hz])) (fun z hz => hb z (by simp [hz]))
    show sb (ad x y) (ad p q) :: difs (ad x y) (adl a b) = ad (sb x p) (sb y q) :: adl (difs x a) (difs y b)
    rw [ih, sb_lin x y p q hp hq]
theorem sums_adl : ∀ (a b : List Nat) (p q : Nat), sums (ad p q) (adl a b) = adl (sums p a) (sums q b)
  | [], _, _, _ => rfl
  | _ :: _, [], _, _ => rfl
  | x :: a, y :: b, p, q => by
    have ih := sums_adl a b (ad p x) (ad q y)
    show ad (ad p q) (ad x y) :: sums (ad (ad p q) (ad x y)) (adl a b) = ad (ad p x) (ad q y) :: adl (sums (ad p x) a) (sums (ad q y) b)
    rw [← ih, ad_lin x y p q]
theorem adl_zero (a b : List Nat) (ha : ∀ x ∈ a, x < 18446744073709551616) (hb : ∀ x ∈ b, x < 18446744073709551616) : difs 0 (adl a b) = adl (difs 0 a) (difs 0 b) ∧ sums 0 (adl a b) = adl (sums 0 a) (sums 0 b) := by
  have h1 := difs_adl a b 0 0 (by decide) (by decide) ha hb
  have h2 := sums_adl a b 0 0
  rw [ad_zero 0 (by decide)] at h1 h2
  exact ⟨h1, h2⟩
end Hy.Dlt
namespace Go.Proofs.Ytdblegdbfdhepaa
open Go.RowKit Hy
set_option maxRecDepth 100000 in
set_option maxHeartbeats 4000000 in
theorem deltaLinear_walk (a b : List Nat) (A B : Option Addr) (n m ca cb : Nat) (w : World) (hn : a.length = n) (hm : b.length = m) (ha : Rd w A (u64s a)) (hb : Rd w B (u64s b))
    (hla : ∀ x ∈ a, x < 18446744073709551616) (hlb : ∀ x ∈ b, x < 18446744073709551616) (hnl : n ≤ 1000000000000000) (hml : m ≤ 1000000000000000) :
    Calls Try.prog 17 #[.slice A n ca, .slice B m cb] w fun e w' => e = .returned (.bool true) ∧ Ext w w' := by
  have hnI : (n : Int) ≤ 1000000000000000 := by omega
  have hmI : (m : Int) ≤ 1000000000000000 := by omega
  by_cases hnm : n = m
  · subst hnm
    by_cases h64 : 64 < n
    · have h64I : (64 : Int) < (n : Int) := by omega
      clear ha hb hla hlb hn hm hnl hml h64
      go_enter Try.func17, Try.ntmps17
      go_wp2_with fail
      refine Calls.mono (deltaBegun_any _) ?_
      rintro e w1 ⟨rfl, hx⟩
      have X1 := hid hx
      clear hx
      go_wp2
      go_returns
      exact ⟨rfl, X1.out⟩
    · have h64I : (n : Int) ≤ 64 := by omega
      have HN64 := hid (show n ≤ 64 by omega)
      have HA := hid ha
      have HB := hid hb
      have HN := hid hn
      have HM := hid hm
      have HLA := hid hla
      have HLB := hid hlb
      clear ha hb hla hlb hn hm hnl hml h64 hnI hmI
      go_enter Try.func17, Try.ntmps17
      go_wp2_with fail
      refine Calls.mono (deltaBegun_any _) ?_
      rintro e w1 ⟨rfl, hx⟩
      have X1 := hid hx
      clear hx
      go_wp2
      go_loopw [5, 6] (fun v c wr => ∃ i : Nat, i ≤ n ∧ c = .int .i64 i ∧ Hid (wr.ownsRow w.heap.size 33 1 v i (u64s (Dlt.adl (a.take i) (b.take i)))) ∧ Ext w wr) (fun _ c _ => n - (intOf c).toNat)
      case atStart => exact ⟨0, Nat.zero_le _, rfl, hid (World.ownsRow_nil _ _ _ _), X1.out⟩
      case round =>
        obtain ⟨i, hi, rfl, HO, X⟩ := hrel
        by_cases hlt : i < n
        · have hltI : (i : Int) < (n : Int) := by omega
          obtain ⟨x, hx⟩ : ∃ x, a[i]? = some x := ⟨_, List.getElem?_eq_getElem (by rw [HN.out]; exact hlt)⟩
          obtain ⟨y, hy⟩ : ∃ y, b[i]? = some y := ⟨_, List.getElem?_eq_getElem (by rw [HM.out]; exact hlt)⟩
          obtain ⟨b1, o1, rfl, l1, c1⟩ := HA.out.num0 (by rw [HN.out]; omega)
          obtain ⟨b2, o2, rfl, l2, c2⟩ := HB.out.num0 (by rw [HM.out]; omega)
          have d0 := (X.cell (p := ⟨b1, o1 + i, none⟩) l1).trans (c1 i x hx)
          have d1 := (X.cell (p := ⟨b2, o2 + i, none⟩) l2).trans (c2 i y hy)
          have hxl := HLA.out x (List.mem_of_getElem? hx)
          have hyl := HLB.out y (List.mem_of_getElem? hy)
          have HTK := hid (Dlt.adl_take hx hy)
          have hz := Dlt.ad_int x y
          have hzl := Dlt.ad_lt x y
          obtain ⟨z, hzz⟩ : ∃ z, z = Dlt.ad x y := ⟨_, rfl⟩
          rw [← hzz] at HTK hz hzl
          have hxI : (x : Int) ≤ 18446744073709551615 := by omega
          have hyI : (y : Int) ≤ 18446744073709551615 := by omega
          have hzI : (z : Int) ≤ 18446744073709551615 := by omega
          have HI64 := hid (show i ≤ 64 by have := HN64.out; omega)
          generalize Dlt.adl (a.take i) (b.take i) = L at *
          have HX := hid X
          obtain ⟨A3, c3, rfl, _⟩ := Rd.owned HO.out
          clear c1 c2 hx hy hxl hyl hzl hzz X
          have d0r := cell_regrown d0
          have d1r := cell_regrown d1
          go_wp2
          refine wp_region_late [11] [12] [(0, true), (1, true), (2, true), (3, true), (4, true), (5, true), (6, true), (7, true), (8, true), (9, true), (10, false), (11, false), (12, true)] (by kernel_rfl) (by kernel_rfl) (fun _ _ _ _ _ h => h) (by kernel_rfl) (by rfl) ?_
          simp only [List.filterMap_cons, List.filterMap_nil, List.getElem?_toArray, List.getElem?_cons_zero, List.getElem?_cons_succ, Option.map_some, List.contains_cons, List.contains_nil, Nat.reduceBEq, Bool.or_false]
          repeat ((first | refine wpL_val (by rfl) ?_ | refine wpL_pure (by rfl) ?_); intro K hK; go_big_quiet_op; go_big_quiet_on)
          refine wpL_do (by rfl) ?_
          intro K hK
          go_simp
          have Y1 : Ext wr (wr.drew.alloc (.cells #[.int .u64 (z : Int)] 33)) := Ext.new (Ext.draw (ext_refl wr)) _
          refine hK _ _ Y1 ?_
          clear K hK
          refine wpL_late (by rfl) ?_
          intro K hK
          refine wp_app (.tmp 38) (.tmp 48) rowU64 rfl _ i (u64s L) rfl (own_ext HO.out Y1) _ 1 (u64s [z]) rfl (Src.rd Try.underlying22 _ 1 1 _ rfl (rd_lit rfl rfl) (u64s_one _) (fun h => by cases h)) (by have := HI64.out; unfold maxLen; omega) (by have := HI64.out; omega) (by have := HX.out.size; simp; omega) ?_
          intro v3 w3 hown3 hgr3 hat3 hbel3
          refine hK _ _ ?_
          clear K hK
          obtain ⟨C3, k3, rfl, _⟩ := Rd.owned hown3
          have HO3 := hid hown3
          have HX3 : Hid (Ext w w3) := hid ((HX.out.then Y1).trans hbel3)
          clear hown3 hgr3 hat3 hbel3 d0 d1 d0r d1r
          simp only [Act.put, List.setIfInBounds_toArray, List.set_cons_succ, List.set_cons_zero]
          repeat (refine wpL_pure (by rfl) ?_; intro K hK; go_big_quiet_op; go_big_quiet_on)
          refine wpL_nil ?_
          go_wp2
          go_roundw
          case rel => exact ⟨i + 1, by omega, by go_num, hid (by rw [HTK.out, u64s_app]; exact HO3.out), HX3.out⟩
          case measure => simp [intOf]; omega
        · obtain rfl : i = n := by omega
          have hta : a.take i = a := List.take_of_length_le (by rw [HN.out]; exact Nat.le_refl _)
          have htb : b.take i = b := List.take_of_length_le (by rw [HM.out]; exact Nat.le_refl _)
          rw [hta, htb] at HO
          obtain ⟨C, cc, rfl, hrc, _⟩ := Rd.owned HO.out
          have HRC := hid hrc
          obtain ⟨e1, e2⟩ := Dlt.adl_zero a b HLA.out HLB.out
          have hlc : (Dlt.adl a b).length = i := by rw [Dlt.adl_len a b (by rw [HN.out, HM.out]), HN.out]
          have hdf : ∀ l : List Nat, l.length = i → Dlt.df l = (Dlt.difs 0 l, 0) := fun l h => by unfold Dlt.df; rw [if_neg (by rw [h]; have := HN64.out; omega)]
          have hsm : ∀ l : List Nat, l.length = i → Dlt.sm l = (Dlt.sums 0 l, 0) := fun l h => by unfold Dlt.sm; rw [if_neg (by rw [h]; have := HN64.out; omega)]
          have H1 := hid (fun wx (hx : Ext wr wx) => dDiffs_of a _ _ A i ca wx HN.out (HA.out.keep (X.then hx)) HLA.out (by have := HN64.out; omega) (hdf a HN.out))
          have H2 := hid (fun wx (hx : Ext wr wx) => dDiffs_of b _ _ B i cb wx HM.out (HB.out.keep (X.then hx)) HLB.out (by have := HN64.out; omega) (hdf b HM.out))
          have H3 := hid (fun wx (hx : Ext wr wx) => dDiffs_of _ _ _ C i cc wx hlc (HRC.out.keep hx) (Dlt.adl_lt a b) (by have := HN64.out; omega) (hdf _ hlc))
          have H4 := hid (fun wx (hx : Ext wr wx) => dSums_of a _ _ A i ca wx HN.out (HA.out.keep (X.then hx)) HLA.out (by have := HN64.out; omega) (hsm a HN.out))
          have H5 := hid (fun wx (hx : Ext wr wx) => dSums_of b _ _ B i cb wx HM.out (HB.out.keep (X.then hx)) HLB.out (by have := HN64.out; omega) (hsm b HM.out))
          have H6 := hid (fun wx (hx : Ext wr wx) => dSums_of _ _ _ C i cc wx hlc (HRC.out.keep hx) (Dlt.adl_lt a b) (by have := HN64.out; omega) (hsm _ hlc))
          rw [e1] at H3
          rw [e2] at H6
          have q1 : (Dlt.difs 0 a).length = i := by rw [Dlt.difs_len, HN.out]
          have q2 : (Dlt.difs 0 b).length = i := by rw [Dlt.difs_len, HM.out]
          have q4 : (Dlt.sums 0 a).length = i := by rw [Dlt.sums_len, HN.out]
          have q5 : (Dlt.sums 0 b).length = i := by rw [Dlt.sums_len, HM.out]
          have g1 := Dlt.difs_lt 0 a
          have g2 := Dlt.difs_lt 0 b
          have g4 := Dlt.sums_lt 0 a
          have g5 := Dlt.sums_lt 0 b
          obtain ⟨P, hP⟩ : ∃ P, P = Dlt.difs 0 a := ⟨_, rfl⟩
          obtain ⟨Q, hQ⟩ : ∃ Q, Q = Dlt.difs 0 b := ⟨_, rfl⟩
          obtain ⟨R, hR⟩ : ∃ R, R = Dlt.sums 0 a := ⟨_, rfl⟩
          obtain ⟨S, hS⟩ : ∃ S, S = Dlt.sums 0 b := ⟨_, rfl⟩
          rw [← hP] at H1 H3 q1 g1
          rw [← hQ] at H2 H3 q2 g2
          rw [← hR] at H4 H6 q4 g4
          rw [← hS] at H5 H6 q5 g5
          have q3 : (Dlt.adl P Q).length = i := by rw [Dlt.adl_len P Q (by rw [q1, q2]), q1]
          have q6 : (Dlt.adl R S).length = i := by rw [Dlt.adl_len R S (by rw [q4, q5]), q4]
          rw [q1] at H1
          rw [q2] at H2
          rw [q3] at H3
          rw [q4] at H4
          rw [q5] at H5
          rw [q6] at H6
          have HX := hid X
          have Q1 := hid q1
          have Q2 := hid q2
          have Q3 := hid q3
          have Q4 := hid q4
          have Q5 := hid q5
          have Q6 := hid q6
          have G1 := hid g1
          have G2 := hid g2
          have G4 := hid g4
          have G5 := hid g5
          clear hP hQ hR hS q1 q2 q3 q4 q5 q6 g1 g2 g4 g5 e1 e2 hlc hdf hsm hrc hta htb X hlt
          go_wp2_with fail
          refine Calls.mono (H1.out _ (ext_refl _)) ?_
          rintro e w2 ⟨B1, k1, rfl, hr1, hx⟩
          have E := hid hx
          have R1 := hid hr1
          clear hx hr1
          go_wp2_with fail
          refine Calls.mono (H2.out _ E.out) ?_
          rintro e w3 ⟨B2, k2, rfl, hr2, hx⟩
          replace E := hid (E.out.then hx)
          replace R1 := hid (R1.out.keep hx)
          have R2 := hid hr2
          clear hx hr2
          go_wp2_with fail
          refine Calls.mono (H3.out _ E.out) ?_
          rintro e w4 ⟨B3, k3, rfl, hr3, hx⟩
          replace E := hid (E.out.then hx)
          replace R1 := hid (R1.out.keep hx)
          replace R2 := hid (R2.out.keep hx)
          have R3 := hid hr3
          clear hx hr3
          go_wp2_with fail
          refine Calls.mono (H4.out _ E.out) ?_
          rintro e w5 ⟨B4, k4, rfl, hr4, hx⟩
          replace E := hid (E.out.then hx)
          replace R1 := hid (R1.out.keep hx)
          replace R2 := hid (R2.out.keep hx)
          replace R3 := hid (R3.out.keep hx)
          have R4 := hid hr4
          clear hx hr4
          go_wp2_with fail
          refine Calls.mono (H5.out _ E.out) ?_
          rintro e w6 ⟨B5, k5, rfl, hr5, hx⟩
          replace E := hid (E.out.then hx)
          replace R1 := hid (R1.out.keep hx)
          replace R2 := hid (R2.out.keep hx)
          replace R3 := hid (R3.out.keep hx)
          replace R4 := hid (R4.out.keep hx)
          have R5 := hid hr5
          clear hx hr5
          go_wp2_with fail
          refine Calls.mono (H6.out _ E.out) ?_
          rintro e w7 ⟨B6, k6, rfl, hr6, hx⟩
          replace E := hid (E.out.then hx)
          replace R1 := hid (R1.out.keep hx)
          replace R2 := hid (R2.out.keep hx)
          replace R3 := hid (R3.out.keep hx)
          replace R4 := hid (R4.out.keep hx)
          replace R5 := hid (R5.out.keep hx)
          have R6 := hid hr6
          clear hx hr6
          go_wp2
          go_loopw [19] (fun c wr => ∃ k : Nat, k ≤ i ∧ c = .int .i64 k ∧ Hid (Ext w7 wr)) (fun c _ => i - (intOf c).toNat)
          case atStart => exact ⟨0, Nat.zero_le _, rfl, hid (ext_refl _)⟩
          case round =>
            obtain ⟨k, hk, rfl, HXX⟩ := hrel
            by_cases hlt : k < i
            · have hltI : (k : Int) < (i : Int) := by omega
              obtain ⟨p1, hp1⟩ : ∃ x, P[k]? = some x := ⟨_, List.getElem?_eq_getElem (by rw [Q1.out]; exact hlt)⟩
              have hl1 := G1.out p1 (List.mem_of_getElem? hp1)
              have hI1 : (p1 : Int) ≤ 18446744073709551615 := by omega
              obtain ⟨p2, hp2⟩ : ∃ x, Q[k]? = some x := ⟨_, List.getElem?_eq_getElem (by rw [Q2.out]; exact hlt)⟩
              have hl2 := G2.out p2 (List.mem_of_getElem? hp2)
              have hI2 : (p2 : Int) ≤ 18446744073709551615 := by omega
              obtain ⟨p4, hp4⟩ : ∃ x, R[k]? = some x := ⟨_, List.getElem?_eq_getElem (by rw [Q4.out]; exact hlt)⟩
              have hl4 := G4.out p4 (List.mem_of_getElem? hp4)
              have hI4 : (p4 : Int) ≤ 18446744073709551615 := by omega
              obtain ⟨p5, hp5⟩ : ∃ x, S[k]? = some x := ⟨_, List.getElem?_eq_getElem (by rw [Q5.out]; exact hlt)⟩
              have hl5 := G5.out p5 (List.mem_of_getElem? hp5)
              have hI5 : (p5 : Int) ≤ 18446744073709551615 := by omega
              have hp3 := Dlt.adl_at hp1 hp2
              have hp6 := Dlt.adl_at hp4 hp5
              have hz3 := Dlt.ad_int p1 p2
              have hz6 := Dlt.ad_int p4 p5
              generalize Dlt.ad p1 p2 = p3 at *
              generalize Dlt.ad p4 p5 = p6 at *
              have h33 : ((p3 : Int) != (p3 : Int)) = false := by simp
              have h66 : ((p6 : Int) != (p6 : Int)) = false := by simp
              obtain ⟨f1, o1, rfl, l1, c1⟩ := R1.out.num0 (by rw [Q1.out]; omega)
              have d1 := (HXX.out.cell (p := ⟨f1, o1 + k, none⟩) l1).trans (c1 k p1 hp1)
              obtain ⟨f2, o2, rfl, l2, c2⟩ := R2.out.num0 (by rw [Q2.out]; omega)
              have d2 := (HXX.out.cell (p := ⟨f2, o2 + k, none⟩) l2).trans (c2 k p2 hp2)
              obtain ⟨f3, o3, rfl, l3, c3⟩ := R3.out.num0 (by rw [Q3.out]; omega)
              have d3 := (HXX.out.cell (p := ⟨f3, o3 + k, none⟩) l3).trans (c3 k p3 hp3)
              obtain ⟨f4, o4, rfl, l4, c4⟩ := R4.out.num0 (by rw [Q4.out]; omega)
              have d4 := (HXX.out.cell (p := ⟨f4, o4 + k, none⟩) l4).trans (c4 k p4 hp4)
              obtain ⟨f5, o5, rfl, l5, c5⟩ := R5.out.num0 (by rw [Q5.out]; omega)
              have d5 := (HXX.out.cell (p := ⟨f5, o5 + k, none⟩) l5).trans (c5 k p5 hp5)
              obtain ⟨f6, o6, rfl, l6, c6⟩ := R6.out.num0 (by rw [Q6.out]; omega)
              have d6 := (HXX.out.cell (p := ⟨f6, o6 + k, none⟩) l6).trans (c6 k p6 hp6)
              clear c1 c2 c3 c4 c5 c6 hp1 hp2 hp3 hp4 hp5 hp6 hl1 hl2 hl4 hl5
              go_wp2_with fail
              go_quiet (fail)
              go_wp2
              go_roundw
              case rel => exact ⟨k + 1, by omega, by go_num, hid (HXX.out.draws _)⟩
              case measure => simp [intOf]; omega
            · obtain rfl : k = i := by omega
              have XE := hid (HX.out.then (E.out.then HXX.out))
              clear hlt
              go_wp2
              go_returns
              exact ⟨rfl, XE.out⟩
  · have hneI : ((n : Int) != (m : Int)) = true := by rw [bne_iff_ne]; omega
    have hneI2 : ((n : Int) == (m : Int)) = false := by rw [beq_eq_false_iff_ne]; omega
    clear ha hb hla hlb hn hm hnl hml hnm
    go_enter Try.func17, Try.ntmps17
    go_wp2_with fail
    refine Calls.mono (deltaBegun_any _) ?_
    rintro e w1 ⟨rfl, hx⟩
    have X1 := hid hx
    clear hx
    go_wp2
    go_returns
    exact ⟨rfl, X1.out⟩
end Go.Proofs.Ytdblegdbfdhepaa
