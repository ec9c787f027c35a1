/- Runs: RunsJoins: walk. -/
import Derived.Test.YtgobnpogmghgkaaRuu
import Derived.Test.YtgobnpogmghgkaaRow
namespace Go.Proofs.Ytgobnpogmghgkaa
open Go.RowKit Hy
set_option maxHeartbeats 4000000 in
theorem runsJoins_walk (a b : List Nat) (A B : Option Addr) (n m ca cb : Nat) (W : World) (hn : a.length = n) (hm : b.length = m) (ha : Rd W A (u64s a)) (hb : Rd W B (u64s b)) (hAn : A = none → n = 0) (hBn : B = none → m = 0) (hnl : n ≤ 140737488355328) (hml : m ≤ 140737488355328) :
    Calls Try.prog 14 #[.slice A n ca, .slice B m cb] W fun e w' => e = .returned (.bool true) ∧ Ext W w' := by
  by_cases h : n + m ≤ 64
  · have hnI : (n : Int) + (m : Int) ≤ 64 := by omega
    have h1 := Runs.joins_len a b
    have h2 := Runs.runs_len a
    have h3 := Runs.runs_len b
    have h4 := Runs.runs_len (a ++ b)
    have h5 : (a ++ b).length = n + m := by rw [List.length_append, hn, hm]
    have hjo : Runs.jo (Runs.runs a) (Runs.runs b) = (Runs.runs (a ++ b), 0) := by
      rw [Runs.jo_ok _ _ (Runs.chk_runs a (by omega)) (Runs.chk_runs b (by omega)), Runs.unrun_runs, Runs.unrun_runs, if_pos (by omega)]
    have H1 := hid (fun w' (hx : Ext W w') => of_of a (Runs.runs a) n A ca w' hn (by omega) (ha.keep hx) rfl)
    have H2 := hid (fun w' (hx : Ext W w') => of_of b (Runs.runs b) m B cb w' hm (by omega) (hb.keep hx) rfl)
    obtain ⟨x, hx⟩ : ∃ x, x = Runs.runs a := ⟨_, rfl⟩
    obtain ⟨y, hy⟩ : ∃ y, y = Runs.runs b := ⟨_, rfl⟩
    obtain ⟨z, hz⟩ : ∃ z, z = Runs.runs (a ++ b) := ⟨_, rfl⟩
    rw [← hx, ← hy, ← hz] at hjo h1
    rw [← hx] at H1 h2
    rw [← hy] at H2 h3
    rw [← hz] at h4
    obtain ⟨lx, hlx⟩ : ∃ lx, lx = x.length := ⟨_, rfl⟩
    obtain ⟨ly, hly⟩ : ∃ ly, ly = y.length := ⟨_, rfl⟩
    obtain ⟨lz, hlz⟩ : ∃ lz, lz = z.length := ⟨_, rfl⟩
    rw [← hlx] at H1 h1 h2
    rw [← hly] at H2 h1 h3
    rw [← hlz] at h1 h4
    have hb1 : (lx : Int) ≤ 64 ∧ (ly : Int) ≤ 64 ∧ (lz : Int) ≤ 64 := by omega
    have HJ := hid (fun (A B : Option Addr) (ca cb : Nat) (w : World) (ha : Rd w A (rws x)) (hb : Rd w B (rws y)) (hA : A = none → lx = 0) (hB : B = none → ly = 0) (hmc : ly ≤ cb) => joined_of x y z 0 A B lx ly ca cb w hlx.symm hly.symm ha hb hA hB hmc (by omega) (by omega) hjo)
    rw [← hlz] at HJ
    have HLZ := hid hlz
    have H3 := hid (fun (A : Option Addr) (c : Nat) (w : World) (hr : Rd w A (u64s (a ++ b))) => of_of (a ++ b) z (n + m) A c w h5 h hr hz.symm)
    rw [← hlz] at H3
    have HN := hid hn
    have HM := hid hm
    have HA := hid ha
    have HB := hid hb
    have HAN := hid hAn
    have HBN := hid hBn
    have HNM := hid h
    have HLE := hid h1
    have HLESS := hid (show Runs.less a b = if a ≠ [] ∧ b ≠ [] ∧ a.getLast? = b.head? then 1 else 0 from rfl)
    have hnm0 : (n : Int) ≤ 64 ∧ (m : Int) ≤ 64 := by omega
    clear h5 hjo hx hy hz hlx hly hlz h1 h2 h3 h4 hnl hml ha hb hAn hBn h
    by_cases hn0 : n = 0
    · have e0 : a = [] := List.eq_nil_of_length_eq_zero (by rw [HN.out]; exact hn0)
      have hj : (lz : Int) = (lx : Int) + (ly : Int) := by have := HLE.out; rw [HLESS.out, if_neg (by simp [e0])] at this; omega
      have hd1 : decide (0 < n) = false := by simpa using hn0
      clear hn hm e0 hn0
      go_enter Try.func14, Try.ntmps14
      go_wp2_with fail
      refine (H1.out _ (ext_refl _)).mono ?_
      rintro e w1 ⟨B1, c1, rfl, r1, x1, k1, _⟩
      have R1 := hid r1
      have K1 := hid k1
      have X1 := hid x1
      clear r1 x1 k1
      go_wp2_with fail
      refine (H2.out _ X1.out).mono ?_
      rintro e w2 ⟨B2, c2, rfl, r2, x2, k2, q2⟩
      have R2 := hid r2
      have K2 := hid k2
      have Q2 := hid q2
      replace R1 := hid (R1.out.keep x2)
      have X2 := hid (X1.out.then x2)
      clear r2 x2 k2 q2
      go_wp2_with fail
      refine (runsBegun_any _).mono ?_
      rintro e w3 ⟨rfl, x3⟩
      replace R1 := hid (R1.out.keep x3)
      replace R2 := hid (R2.out.keep x3)
      have X3 := hid (X2.out.then x3)
      clear x3
      go_wp2_with fail
      refine (HJ.out _ _ _ _ _ R1.out R2.out K1.out K2.out Q2.out).mono ?_
      rintro e w4 ⟨B4, c4, rfl, r4, x4⟩
      have R4 := hid r4
      have X4 := hid (X3.out.then x4)
      clear r4 x4
      go_wp2_with (first
        | (at_builtin; go_loud (refine wpList_app rfl (.tmp 47) (.tmp 48) rowU64 rfl _ 0 [] rfl (own_new (base := w4.heap.size) (n := 0) rfl rfl (Nat.le_refl _) (by decide)) _ n (u64s a) rfl (Src.rd Try.underlying36 _ n ca _ (by rw [u64s_len, HN.out, Nat.mul_one]) (HA.out.keep (Ext.new X4.out _)) (u64s_one _) HAN.out) (by have := HNM.out; simp only [maxLen]; omega) (by have := HNM.out; omega) (by simp) ?_; intro v5 w5 hown5 hgrow5 hat5 hbel5; have HO5 := hid hown5; have E5 : Hid (Ext w4 w5) := hid ((Ext.new (ext_refl w4) _).trans hbel5); clear hown5 hgrow5 hat5 hbel5))
        | (at_builtin; go_loud (refine wpList_app rfl (.tmp 49) (.tmp 50) rowU64 rfl _ (0 + n) ([] ++ u64s a) rfl HO5.out _ m (u64s b) rfl (Src.rd Try.underlying36 _ m cb _ (by rw [u64s_len, HM.out, Nat.mul_one]) (HB.out.keep (X4.out.then E5.out)) (u64s_one _) HBN.out) (by have := HNM.out; simp only [maxLen]; omega) (by have := HNM.out; omega) E5.out.size ?_; intro v6 w6 hown6 hgrow6 hat6 hbel6; rw [Nat.zero_add, List.nil_append, ← u64s_app] at hown6; obtain ⟨A6, c6, rfl, r6, _, _, _⟩ := Rd.owned hown6; have R6 := hid r6; have E6 : Hid (Ext w4 w6) := hid (E5.out.trans hbel6); clear hown6 hgrow6 hat6 hbel6 r6))
        | (go_at_call 24; refine (H3.out _ _ _ R6.out).mono ?_; rintro e w7 ⟨B7, c7, rfl, r7, x7, _, _⟩; have R7 := hid r7; have X7 := hid ((X4.out.then E6.out).then x7); replace R4 := hid (R4.out.keep (E6.out.then x7)); clear r7 x7; skip))
      go_quiet (fail)
      go_wp2_with fail
      refine (sameRuns_of z z _ _ _ _ _ _ _ HLZ.out.symm HLZ.out.symm (R4.out.keep (Ext.draws (ext_refl _) _)) (R7.out.keep (Ext.draws (ext_refl _) _)) (by omega) true (by simp [sameRuns])).mono ?_
      rintro e w8 ⟨rfl, x8⟩
      have X8 := hid ((X7.out.draws _).then x8)
      clear x8
      go_wp2
      go_returns
      exact ⟨rfl, X8.out⟩
    · by_cases hm0 : m = 0
      · have e0 : b = [] := List.eq_nil_of_length_eq_zero (by rw [HM.out]; exact hm0)
        have hj : (lz : Int) = (lx : Int) + (ly : Int) := by have := HLE.out; rw [HLESS.out, if_neg (by simp [e0])] at this; omega
        have hd1 : decide (0 < n) = true := by simpa using Nat.pos_of_ne_zero hn0
        have hd2 : decide (0 < m) = false := by simpa using hm0
        clear hn hm e0 hn0 hm0
        go_enter Try.func14, Try.ntmps14
        go_wp2_with fail
        refine (H1.out _ (ext_refl _)).mono ?_
        rintro e w1 ⟨B1, c1, rfl, r1, x1, k1, _⟩
        have R1 := hid r1
        have K1 := hid k1
        have X1 := hid x1
        clear r1 x1 k1
        go_wp2_with fail
        refine (H2.out _ X1.out).mono ?_
        rintro e w2 ⟨B2, c2, rfl, r2, x2, k2, q2⟩
        have R2 := hid r2
        have K2 := hid k2
        have Q2 := hid q2
        replace R1 := hid (R1.out.keep x2)
        have X2 := hid (X1.out.then x2)
        clear r2 x2 k2 q2
        go_wp2_with fail
        refine (runsBegun_any _).mono ?_
        rintro e w3 ⟨rfl, x3⟩
        replace R1 := hid (R1.out.keep x3)
        replace R2 := hid (R2.out.keep x3)
        have X3 := hid (X2.out.then x3)
        clear x3
        go_wp2_with fail
        refine (HJ.out _ _ _ _ _ R1.out R2.out K1.out K2.out Q2.out).mono ?_
        rintro e w4 ⟨B4, c4, rfl, r4, x4⟩
        have R4 := hid r4
        have X4 := hid (X3.out.then x4)
        clear r4 x4
        go_wp2_with (first
          | (at_builtin; go_loud (refine wpList_app rfl (.tmp 47) (.tmp 48) rowU64 rfl _ 0 [] rfl (own_new (base := w4.heap.size) (n := 0) rfl rfl (Nat.le_refl _) (by decide)) _ n (u64s a) rfl (Src.rd Try.underlying36 _ n ca _ (by rw [u64s_len, HN.out, Nat.mul_one]) (HA.out.keep (Ext.new X4.out _)) (u64s_one _) HAN.out) (by have := HNM.out; simp only [maxLen]; omega) (by have := HNM.out; omega) (by simp) ?_; intro v5 w5 hown5 hgrow5 hat5 hbel5; have HO5 := hid hown5; have E5 : Hid (Ext w4 w5) := hid ((Ext.new (ext_refl w4) _).trans hbel5); clear hown5 hgrow5 hat5 hbel5))
          | (at_builtin; go_loud (refine wpList_app rfl (.tmp 49) (.tmp 50) rowU64 rfl _ (0 + n) ([] ++ u64s a) rfl HO5.out _ m (u64s b) rfl (Src.rd Try.underlying36 _ m cb _ (by rw [u64s_len, HM.out, Nat.mul_one]) (HB.out.keep (X4.out.then E5.out)) (u64s_one _) HBN.out) (by have := HNM.out; simp only [maxLen]; omega) (by have := HNM.out; omega) E5.out.size ?_; intro v6 w6 hown6 hgrow6 hat6 hbel6; rw [Nat.zero_add, List.nil_append, ← u64s_app] at hown6; obtain ⟨A6, c6, rfl, r6, _, _, _⟩ := Rd.owned hown6; have R6 := hid r6; have E6 : Hid (Ext w4 w6) := hid (E5.out.trans hbel6); clear hown6 hgrow6 hat6 hbel6 r6))
          | (go_at_call 24; refine (H3.out _ _ _ R6.out).mono ?_; rintro e w7 ⟨B7, c7, rfl, r7, x7, _, _⟩; have R7 := hid r7; have X7 := hid ((X4.out.then E6.out).then x7); replace R4 := hid (R4.out.keep (E6.out.then x7)); clear r7 x7; skip))
        go_quiet (fail)
        go_wp2_with fail
        refine (sameRuns_of z z _ _ _ _ _ _ _ HLZ.out.symm HLZ.out.symm (R4.out.keep (Ext.draws (ext_refl _) _)) (R7.out.keep (Ext.draws (ext_refl _) _)) (by omega) true (by simp [sameRuns])).mono ?_
        rintro e w8 ⟨rfl, x8⟩
        have X8 := hid ((X7.out.draws _).then x8)
        clear x8
        go_wp2
        go_returns
        exact ⟨rfl, X8.out⟩
      · obtain ⟨p, hp⟩ : ∃ p, n = p + 1 := ⟨n - 1, by omega⟩
        have hpa : p < a.length := by omega
        have hqb : 0 < b.length := by omega
        obtain ⟨b1, o1, rfl, l1, c1⟩ := HA.out.nums p hpa
        obtain ⟨b2, o2, rfl, l2, c2⟩ := HB.out.nums 0 hqb
        have D1 := hid (c1 p hpa)
        have D2 := hid (c2 0 hqb)
        have L1 := hid l1
        have L2 := hid l2
        have g1 : a.getLast? = some a[p] := by
          rw [List.getLast?_eq_getElem?, show a.length - 1 = p by omega, List.getElem?_eq_getElem hpa]
        have g2 : b.head? = some b[0] := by rw [List.head?_eq_getElem?, List.getElem?_eq_getElem hqb]
        have e1 : a ≠ [] := by intro h; rw [h] at hpa; cases hpa
        have e2 : b ≠ [] := by intro h; rw [h] at hqb; cases hqb
        have hd1 : decide (0 < n) = true := by simpa using Nat.pos_of_ne_zero hn0
        have hd2 : decide (0 < m) = true := by simpa using Nat.pos_of_ne_zero hm0
        have hnp : (n : Int) - 1 = (p : Int) := by omega
        have hpn : (p : Int) < (n : Int) := by omega
        have hm1 : (0 : Int) < (m : Int) := by omega
        obtain ⟨u, hu⟩ : ∃ u, u = a[p] := ⟨_, rfl⟩
        obtain ⟨v, hv⟩ : ∃ v, v = b[0] := ⟨_, rfl⟩
        rw [← hu] at D1 g1
        rw [← hv] at D2 g2
        have HG := hid g1
        have HG2 := hid g2
        have HE1 := hid e1
        have HE2 := hid e2
        simp only [Nat.add_zero] at D2
        clear hn hm hn0 hm0 hp c1 c2 l1 l2 hpa hqb hu hv g1 g2 e1 e2
        by_cases huv : u = v
        · have hj : (lz : Int) = (lx : Int) + (ly : Int) - 1 := by have := HLE.out; rw [HLESS.out, if_pos ⟨HE1.out, HE2.out, by rw [HG.out, HG2.out, huv]⟩] at this; omega
          have e1 : ((u : Int) == (v : Int)) = true := by rw [huv]; simp
          have e2 : (u == v) = true := by rw [huv]; simp
          clear huv
          go_enter Try.func14, Try.ntmps14
          go_wp2_with fail
          refine (H1.out _ (ext_refl _)).mono ?_
          rintro e w1 ⟨B1, c1, rfl, r1, x1, k1, _⟩
          have R1 := hid r1
          have K1 := hid k1
          have X1 := hid x1
          clear r1 x1 k1
          go_wp2_with fail
          refine (H2.out _ X1.out).mono ?_
          rintro e w2 ⟨B2, c2, rfl, r2, x2, k2, q2⟩
          have R2 := hid r2
          have K2 := hid k2
          have Q2 := hid q2
          replace R1 := hid (R1.out.keep x2)
          have X2 := hid (X1.out.then x2)
          clear r2 x2 k2 q2
          go_wp2_with fail
          refine (runsBegun_any _).mono ?_
          rintro e w3 ⟨rfl, x3⟩
          replace R1 := hid (R1.out.keep x3)
          replace R2 := hid (R2.out.keep x3)
          have X3 := hid (X2.out.then x3)
          clear x3
          go_wp2_with fail
          refine (HJ.out _ _ _ _ _ R1.out R2.out K1.out K2.out Q2.out).mono ?_
          rintro e w4 ⟨B4, c4, rfl, r4, x4⟩
          have R4 := hid r4
          have X4 := hid (X3.out.then x4)
          clear r4 x4
          go_wp2_with (first
            | (at_builtin; go_loud (refine wpList_app rfl (.tmp 47) (.tmp 48) rowU64 rfl _ 0 [] rfl (own_new (base := w4.heap.size) (n := 0) rfl rfl (Nat.le_refl _) (by decide)) _ n (u64s a) rfl (Src.rd Try.underlying36 _ n ca _ (by rw [u64s_len, HN.out, Nat.mul_one]) (HA.out.keep (Ext.new X4.out _)) (u64s_one _) HAN.out) (by have := HNM.out; simp only [maxLen]; omega) (by have := HNM.out; omega) (by simp) ?_; intro v5 w5 hown5 hgrow5 hat5 hbel5; have HO5 := hid hown5; have E5 : Hid (Ext w4 w5) := hid ((Ext.new (ext_refl w4) _).trans hbel5); clear hown5 hgrow5 hat5 hbel5))
            | (at_builtin; go_loud (refine wpList_app rfl (.tmp 49) (.tmp 50) rowU64 rfl _ (0 + n) ([] ++ u64s a) rfl HO5.out _ m (u64s b) rfl (Src.rd Try.underlying36 _ m cb _ (by rw [u64s_len, HM.out, Nat.mul_one]) (HB.out.keep (X4.out.then E5.out)) (u64s_one _) HBN.out) (by have := HNM.out; simp only [maxLen]; omega) (by have := HNM.out; omega) E5.out.size ?_; intro v6 w6 hown6 hgrow6 hat6 hbel6; rw [Nat.zero_add, List.nil_append, ← u64s_app] at hown6; obtain ⟨A6, c6, rfl, r6, _, _, _⟩ := Rd.owned hown6; have R6 := hid r6; have E6 : Hid (Ext w4 w6) := hid (E5.out.trans hbel6); clear hown6 hgrow6 hat6 hbel6 r6))
            | (go_at_call 24; refine (H3.out _ _ _ R6.out).mono ?_; rintro e w7 ⟨B7, c7, rfl, r7, x7, _, _⟩; have R7 := hid r7; have X7 := hid ((X4.out.then E6.out).then x7); replace R4 := hid (R4.out.keep (E6.out.then x7)); clear r7 x7; have d1 := (X7.out.cell (p := ⟨b1, o1 + p, none⟩) L1.out).trans D1.out; have d2 := (X7.out.cell (p := ⟨b2, o2, none⟩) L2.out).trans D2.out))
          go_quiet (fail)
          go_wp2_with fail
          refine (sameRuns_of z z _ _ _ _ _ _ _ HLZ.out.symm HLZ.out.symm (R4.out.keep (Ext.draws (ext_refl _) _)) (R7.out.keep (Ext.draws (ext_refl _) _)) (by omega) true (by simp [sameRuns])).mono ?_
          rintro e w8 ⟨rfl, x8⟩
          have X8 := hid ((X7.out.draws _).then x8)
          clear x8
          go_wp2
          go_returns
          exact ⟨rfl, X8.out⟩
        · have hj : (lz : Int) = (lx : Int) + (ly : Int) := by
            have := HLE.out
            rw [HLESS.out, if_neg (by rw [HG.out, HG2.out]; intro h; exact huv (Option.some.inj h.2.2))] at this; omega
          have e1 : ((u : Int) == (v : Int)) = false := by rw [beq_eq_false_iff_ne]; omega
          have e2 : (u == v) = false := by rw [beq_eq_false_iff_ne]; exact huv
          clear huv
          go_enter Try.func14, Try.ntmps14
          go_wp2_with fail
          refine (H1.out _ (ext_refl _)).mono ?_
          rintro e w1 ⟨B1, c1, rfl, r1, x1, k1, _⟩
          have R1 := hid r1
          have K1 := hid k1
          have X1 := hid x1
          clear r1 x1 k1
          go_wp2_with fail
          refine (H2.out _ X1.out).mono ?_
          rintro e w2 ⟨B2, c2, rfl, r2, x2, k2, q2⟩
          have R2 := hid r2
          have K2 := hid k2
          have Q2 := hid q2
          replace R1 := hid (R1.out.keep x2)
          have X2 := hid (X1.out.then x2)
          clear r2 x2 k2 q2
          go_wp2_with fail
          refine (runsBegun_any _).mono ?_
          rintro e w3 ⟨rfl, x3⟩
          replace R1 := hid (R1.out.keep x3)
          replace R2 := hid (R2.out.keep x3)
          have X3 := hid (X2.out.then x3)
          clear x3
          go_wp2_with fail
          refine (HJ.out _ _ _ _ _ R1.out R2.out K1.out K2.out Q2.out).mono ?_
          rintro e w4 ⟨B4, c4, rfl, r4, x4⟩
          have R4 := hid r4
          have X4 := hid (X3.out.then x4)
          clear r4 x4
          go_wp2_with (first
            | (at_builtin; go_loud (refine wpList_app rfl (.tmp 47) (.tmp 48) rowU64 rfl _ 0 [] rfl (own_new (base := w4.heap.size) (n := 0) rfl rfl (Nat.le_refl _) (by decide)) _ n (u64s a) rfl (Src.rd Try.underlying36 _ n ca _ (by rw [u64s_len, HN.out, Nat.mul_one]) (HA.out.keep (Ext.new X4.out _)) (u64s_one _) HAN.out) (by have := HNM.out; simp only [maxLen]; omega) (by have := HNM.out; omega) (by simp) ?_; intro v5 w5 hown5 hgrow5 hat5 hbel5; have HO5 := hid hown5; have E5 : Hid (Ext w4 w5) := hid ((Ext.new (ext_refl w4) _).trans hbel5); clear hown5 hgrow5 hat5 hbel5))
            | (at_builtin; go_loud (refine wpList_app rfl (.tmp 49) (.tmp 50) rowU64 rfl _ (0 + n) ([] ++ u64s a) rfl HO5.out _ m (u64s b) rfl (Src.rd Try.underlying36 _ m cb _ (by rw [u64s_len, HM.out, Nat.mul_one]) (HB.out.keep (X4.out.then E5.out)) (u64s_one _) HBN.out) (by have := HNM.out; simp only [maxLen]; omega) (by have := HNM.out; omega) E5.out.size ?_; intro v6 w6 hown6 hgrow6 hat6 hbel6; rw [Nat.zero_add, List.nil_append, ← u64s_app] at hown6; obtain ⟨A6, c6, rfl, r6, _, _, _⟩ := Rd.owned hown6; have R6 := hid r6; have E6 : Hid (Ext w4 w6) := hid (E5.out.trans hbel6); clear hown6 hgrow6 hat6 hbel6 r6))
            | (go_at_call 24; refine (H3.out _ _ _ R6.out).mono ?_; rintro e w7 ⟨B7, c7, rfl, r7, x7, _, _⟩; have R7 := hid r7; have X7 := hid ((X4.out.then E6.out).then x7); replace R4 := hid (R4.out.keep (E6.out.then x7)); clear r7 x7; have d1 := (X7.out.cell (p := ⟨b1, o1 + p, none⟩) L1.out).trans D1.out; have d2 := (X7.out.cell (p := ⟨b2, o2, none⟩) L2.out).trans D2.out))
          go_quiet (fail)
          go_wp2_with fail
          refine (sameRuns_of z z _ _ _ _ _ _ _ HLZ.out.symm HLZ.out.symm (R4.out.keep (Ext.draws (ext_refl _) _)) (R7.out.keep (Ext.draws (ext_refl _) _)) (by omega) true (by simp [sameRuns])).mono ?_
          rintro e w8 ⟨rfl, x8⟩
          have X8 := hid ((X7.out.draws _).then x8)
          clear x8
          go_wp2
          go_returns
          exact ⟨rfl, X8.out⟩
  · have H1 := hid (fun w' (hx : Ext W w') => of_any n ca A a hn (by omega) w' (ha.keep hx))
    have H2 := hid (fun w' (hx : Ext W w') => of_any m cb B b hm (by omega) w' (hb.keep hx))
    have hbig : 64 < (n : Int) + (m : Int) := by omega
    have hnI : (n : Int) ≤ 140737488355328 := by omega
    have hmI : (m : Int) ≤ 140737488355328 := by omega
    obtain ⟨L1, e1, hL1⟩ : ∃ (L : List Runs.Run) (e : Int), L = (if n ≤ 64 then Runs.runs a else []) ∧ e = (if n ≤ 64 then 0 else 2) := ⟨_, _, rfl, rfl⟩
    obtain ⟨L2, e2, hL2⟩ : ∃ (L : List Runs.Run) (e : Int), L = (if m ≤ 64 then Runs.runs b else []) ∧ e = (if m ≤ 64 then 0 else 2) := ⟨_, _, rfl, rfl⟩
    rw [← hL1.1, ← hL1.2] at H1
    rw [← hL2.1, ← hL2.2] at H2
    clear h ha hb hAn hBn hnl hml hn hm hL1 hL2
    go_enter Try.func14, Try.ntmps14
    go_wp2_with fail
    refine (H1.out _ (ext_refl _)).mono ?_
    rintro e w1 ⟨B1, c1, rfl, r1, x1, k1, _⟩
    have X1 := hid x1
    clear r1 x1 k1
    go_wp2_with fail
    refine (H2.out _ X1.out).mono ?_
    rintro e w2 ⟨B2, c2, rfl, r2, x2, k2, q2⟩
    have X2 := hid (X1.out.then x2)
    clear r2 x2 k2 q2
    go_wp2_with fail
    refine (runsBegun_any _).mono ?_
    rintro e w3 ⟨rfl, x3⟩
    have X3 := hid (X2.out.then x3)
    clear x3
    by_cases h1 : e1 = 0
    · subst h1
      by_cases h2 : e2 = 0
      · subst h2
        go_wp2
        go_returns
        exact ⟨rfl, X3.out⟩
      · have g2 : (e2 == 0) = false := by simpa using h2
        go_wp2
        go_returns
        exact ⟨rfl, X3.out⟩
    · have g1 : (e1 == 0) = false := by simpa using h1
      go_wp2
      go_returns
      exact ⟨rfl, X3.out⟩
end Go.Proofs.Ytgobnpogmghgkaa
