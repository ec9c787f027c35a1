/- Join, refused; the document's JoinOf: walks. -/
import Derived.Test.YtikdmnedbfpkeaaNlc
namespace Hy.Cel
theorem dense_any (l : List Cel) : (dense l).length < l.length ↔ anyNull l = true := by
  unfold dense anyNull
  induction l with
  | nil => simp
  | cons c l ih =>
    by_cases h : c.1 = 0
    · simp only [List.filter_cons, List.any_cons, h, ne_eq, not_true, decide_false, decide_true, Bool.true_or, iff_true, List.length_cons]
      have := List.length_filter_le (fun c : Cel => decide ¬c.1 = 0) l
      simp only [if_neg (show ¬ (false = true) from by simp)]
      omega
    · simp only [List.filter_cons, List.any_cons, h, ne_eq, not_false_eq_true, decide_true, decide_false, Bool.false_or, if_true, List.length_cons]
      simp only [ne_eq] at ih
      rw [← ih]; omega
end Hy.Cel
namespace Go.Proofs.Ytikdmnedbfpkeaa
open Go.RowKit Hy
set_option maxHeartbeats 1000000 in
theorem join_any (kind : Int) (m : List Bool) (l : List Cel) (A B : Option Addr) (n k ca cb : Nat) (w : World) (hm : m.length = k) (hrm : Rd w A (bls m)) (hn : l.length = n) (hr : Rd w B (cls l)) (hcap : n ≤ cb) (hkl : k ≤ 140737488355328) (hnl : n ≤ 140737488355328) :
    Calls Try.prog 29 #[.int .i64 kind, .slice A k ca, .slice B n cb] w fun e w' => ∃ C c, e = .returned (.tuple #[.slice C (Cel.jout kind m l).length c, .int .i64 (Cel.jchk kind m l : Nat)]) ∧ Rd w' C (cls (Cel.jout kind m l)) ∧ Ext w w' := by
  by_cases hj : Cel.jchk kind m l = 0
  · refine (join_yes kind m l A B n k ca cb w hm hrm hn hr hcap hj).mono ?_
    rintro e w' ⟨C, c, rfl, h1, h2⟩
    have e : Cel.jout kind m l = Cel.jn m l := by unfold Cel.jout; rw [if_pos hj]
    rw [e, hj, Cel.jn_len, hm]
    exact ⟨C, c, rfl, h1, h2⟩
  · have e : Cel.jout kind m l = [] := by unfold Cel.jout; rw [if_neg hj]
    have HC := hid (jcheck_any kind m l A B n k ca cb w hm hrm hn hr hkl hnl)
    rw [e]
    obtain ⟨c, hc⟩ : ∃ c, c = Cel.jchk kind m l := ⟨_, rfl⟩
    rw [← hc] at HC ⊢
    have hne : ((c : Int) == 0) = false := by rw [beq_eq_false_iff_ne]; omega
    have hne2 : ((c : Int) != 0) = true := by rw [bne_iff_ne]; omega
    clear hm hrm hn hr hj e hc
    go_enter Try.func29, Try.ntmps29
    go_wp2_with fail
    refine Calls.mono HC.out ?_
    rintro e w1 ⟨rfl, hx⟩
    have HX := hid hx
    clear hx
    go_wp2
    go_returns
    exact ⟨none, 0, rfl, fun h => absurd h (by simp [cls]), HX.out⟩
set_option maxHeartbeats 2000000 in
theorem joinOf_yes (kind : Int) (m : List Bool) (l : List Cel) (A B : Option Addr) (n k ca cb : Nat) (w : World) (hm : m.length = k) (hrm : Rd w A (bls m)) (hn : l.length = n) (hr : Rd w B (cls l)) (hj : Cel.jchk kind m l = 0) :
    Calls Try.prog 31 #[.int .i64 kind, .slice A k ca, .slice B n cb] w fun e w' => ∃ C c, e = .returned (.tuple #[.slice C k c, .int .i64 0]) ∧ Rd w' C (cls (Cel.jn m l)) ∧ Ext w w' := by
  obtain ⟨j1, j2, j3, j4⟩ := Cel.jchk_ok hj
  have hk64 : k ≤ 64 := by rw [← hm]; exact j3
  have hnk : n ≤ 64 := by rw [← hn, ← j4]; exact Nat.le_trans List.count_le_length j3
  have HC := hid (cellsCheck_any kind l B n cb w hn hr (by omega))
  rw [j1] at HC
  have HD := hid (fun w' (hx : Ext w w') => denseOf_any l B n cb w' hn (hr.keep hx) (by omega))
  have hdl : (Cel.dense l).length = n := by
    have h1 := Cel.dense_any l
    have h2 := Cel.dense_len l
    rw [j2, hn] at h1
    have : ¬ (Cel.dense l).length < n := fun h => by have := h1.1 h; cases this
    omega
  rw [hdl] at HD
  have HCT := hid (fun w' (hx : Ext w w') (i : Nat) (hi : i ≤ k) => countOf_any m i A k ca w' hm (hrm.keep hx) hi (by omega))
  have hall : (m.take k).count true = n := by rw [List.take_of_length_le (by omega), j4, hn]
  have HALL := hid hall
  have HM := hid hm; have HN := hid hn; have HRM := hid hrm; have HR := hid hr; have HCO := hid j4
  have hkI : (k : Int) ≤ 64 := by omega
  have hk64' := hid hk64
  clear hm hn hrm hr hj j1 j2 j3 j4 hk64 hall hdl
  go_enter Try.func31, Try.ntmps31
  go_wp2_with fail
  refine Calls.mono HC.out ?_
  rintro e w0 ⟨rfl, hx⟩
  have X0 := hid hx
  clear hx
  go_wp2_with fail
  refine Calls.mono (HD.out _ X0.out) ?_
  rintro e w1 ⟨D0, c0, rfl, hrd, hx⟩
  replace X0 := hid (X0.out.then hx)
  clear hx hrd
  go_wp2_with fail
  refine Calls.mono (HCT.out _ X0.out k (Nat.le_refl _)) ?_
  rintro e _ ⟨rfl, rfl⟩
  rw [HALL.out]
  go_wp2
  go_loopw [9, 10] (fun ov c wr => ∃ i : Nat, i ≤ k ∧ c = .int .i64 i ∧ wr.ownsRow w1.heap.size 25 3 ov i (cls ((Cel.jn m l).take i)) ∧ Ext w1 wr) (fun _ c _ => k - (intOf c).toNat)
  case atStart => exact ⟨0, Nat.zero_le _, rfl, World.ownsRow_nil _ _ _ _, ext_refl _⟩
  case round =>
    obtain ⟨i, hi, rfl, hown, X⟩ := hrel
    by_cases hlt : i < k
    · have hia : i < m.length := by rw [HM.out]; exact hlt
      obtain ⟨b1, o1, e1, l1, c1⟩ := HRM.out.bool (by omega)
      subst e1
      have XX := X0.out.then X
      have dm := (XX.cell (p := ⟨b1, o1 + i, none⟩) l1).trans (c1 i hia)
      obtain ⟨b, hb⟩ : ∃ b, b = m[i] := ⟨_, rfl⟩
      rw [← hb] at dm
      have HT := hid (Cel.jn_take m l i hia)
      have HOWN := hid hown
      have HX := hid X
      cases b with
      | false =>
        have HE := hid (Cel.jat_no m l i hia hb.symm)
        rw [HE.out] at HT
        clear HE hia c1 l1 hb hown X XX
        generalize (Cel.jn m l).take i = D at *
        go_wp2_with (at_builtin; go_loud (refine wpList_app rfl (.tmp 52) (.tmp 54) rowCl rfl _ i (cls D) rfl (own_ext HOWN.out (Ext.new (ext_refl _) _)) _ 1 (cls [Cel.O]) rfl (Src.rd Try.underlying22 _ 1 1 _ rfl (rd_lit rfl rfl) (cls_one _) (fun h => by cases h)) (by have := hk64'.out; simp only [maxLen]; omega) (by have := hk64'.out; omega) (by have := HX.out.size; simp; omega) ?_; intro v' w5 hown5 hgrow hat hbel))
        go_roundw
        case rel => exact ⟨i + 1, by omega, by go_num, by rw [HT.out, cls_app]; exact hown5, ((Ext.new HX.out _).trans hbel)⟩
        case measure => simp [intOf]; omega
      | true =>
        have hpn : (m.take i).count true < n := by rw [← HN.out, ← HCO.out]; exact Cel.count_at m i hia hb.symm
        have HE := hid (Cel.jat_yes m l i hia hb.symm (by rw [HN.out]; exact hpn))
        rw [HE.out] at HT
        have HCC := hid (HCT.out wr XX i hi)
        obtain ⟨p, hp⟩ : ∃ p, p = (m.take i).count true := ⟨_, rfl⟩
        simp only [← hp] at HT hpn HCC
        obtain ⟨b2, o2, e2, l2, c2⟩ := HR.out.cels p (by rw [HN.out]; exact hpn)
        subst e2
        have q := c2 p (by rw [HN.out]; exact hpn)
        obtain ⟨cc, hcc⟩ : ∃ cc, cc = l[p]'(by rw [HN.out]; exact hpn) := ⟨_, rfl⟩
        rw [← hcc] at q HT
        obtain ⟨ck, cn, cs⟩ := cc
        have d0 := (XX.cell (p := ⟨b2, o2 + p * 3, none⟩) l2).trans q.1
        have d1 := (XX.cell (p := ⟨b2, o2 + p * 3 + 1, none⟩) l2).trans q.2.1
        have d2 := (XX.cell (p := ⟨b2, o2 + p * 3 + 2, none⟩) l2).trans q.2.2
        have hpI : (p : Int) < (n : Int) := by omega
        have hnI : (n : Int) ≤ 64 := by omega
        clear HE hia c1 l1 hb hp hown X XX c2 q hcc hpn l2
        generalize (Cel.jn m l).take i = D at *
        go_wp2_with fail
        refine Calls.mono HCC.out ?_
        rintro e _ ⟨rfl, rfl⟩
        go_wp2_with (at_builtin; go_loud (refine wpList_app rfl (.tmp 43) (.tmp 50) rowCl rfl _ i (cls D) rfl (own_ext HOWN.out (Ext.new (ext_refl _) _)) _ 1 (cls [(ck, cn, cs)]) rfl (Src.rd Try.underlying22 _ 1 1 _ rfl (rd_lit rfl rfl) (cls_one _) (fun h => by cases h)) (by have := hk64'.out; simp only [maxLen]; omega) (by have := hk64'.out; omega) (by have := HX.out.size; simp; omega) ?_; intro v' w7 hown7 hgrow hat hbel))
        go_roundw
        case rel => exact ⟨i + 1, by omega, by go_num, by rw [HT.out, cls_app]; exact hown7, (Ext.new HX.out _).trans hbel⟩
        case measure => simp [intOf]; omega
    · obtain rfl : i = k := by omega
      obtain ⟨C, c, rfl, hrd, hB, hc, hcm⟩ := Rd.owned hown
      have HRD := hid hrd
      have HX := hid (X0.out.then X)
      clear hown hrd hB hc hcm X
      go_wp2
      go_returns
      have e : (Cel.jn m l).take i = Cel.jn m l := List.take_of_length_le (by rw [Cel.jn_len, HM.out]; exact Nat.le_refl _)
      rw [e] at HRD
      exact ⟨C, c, rfl, HRD.out, HX.out⟩
set_option maxHeartbeats 2000000 in
theorem joinOf_any (kind : Int) (m : List Bool) (l : List Cel) (A B : Option Addr) (n k ca cb : Nat) (w : World) (hm : m.length = k) (hrm : Rd w A (bls m)) (hn : l.length = n) (hr : Rd w B (cls l)) (hkl : k ≤ 140737488355328) (hnl : n ≤ 140737488355328) :
    Calls Try.prog 31 #[.int .i64 kind, .slice A k ca, .slice B n cb] w fun e w' => ∃ C c, e = .returned (.tuple #[.slice C (Cel.jout kind m l).length c, .int .i64 (Cel.jchk kind m l : Nat)]) ∧ Rd w' C (cls (Cel.jout kind m l)) ∧ Ext w w' := by
  by_cases hj : Cel.jchk kind m l = 0
  · refine (joinOf_yes kind m l A B n k ca cb w hm hrm hn hr hj).mono ?_
    rintro e w' ⟨C, c, rfl, h1, h2⟩
    have e : Cel.jout kind m l = Cel.jn m l := by unfold Cel.jout; rw [if_pos hj]
    rw [e, hj, Cel.jn_len, hm]
    exact ⟨C, c, rfl, h1, h2⟩
  · have e : Cel.jout kind m l = [] := by unfold Cel.jout; rw [if_neg hj]
    rw [e]
    have HC := hid (cellsCheck_any kind l B n cb w hn hr hnl)
    have HJ := hid hj
    clear hj e
    by_cases h1 : Cel.cchk kind l = 0
    · have hn64 : n ≤ 64 := by rw [← hn]; exact (Cel.cchk_iff.1 h1).2.1
      have HD := hid (fun w' (hx : Ext w w') => denseOf_any l B n cb w' hn (hr.keep hx) (by omega))
      have hda := Cel.dense_any l
      have hdl := Cel.dense_len l
      rw [hn] at hda hdl
      rw [h1] at HC
      obtain ⟨d, hd⟩ : ∃ d, d = (Cel.dense l).length := ⟨_, rfl⟩
      rw [← hd] at hda HD hdl
      clear hd
      have hdI : (d : Int) ≤ 64 := by omega
      have hd0 : (0 : Int) ≤ (d : Int) := by omega
      by_cases h2 : Cel.anyNull l = true
      · have hj7 : Cel.jchk kind m l = 7 := by unfold Cel.jchk; rw [if_neg (by rw [h1]; simp), if_pos h2]
        have hlt : (d : Int) < (n : Int) := by have := hda.2 h2; omega
        rw [hj7]
        clear hm hrm hn hr h1 h2 hj7 HJ hda hdl
        go_enter Try.func31, Try.ntmps31
        go_wp2_with fail
        refine Calls.mono HC.out ?_
        rintro e w0 ⟨rfl, hx⟩
        have X0 := hid hx
        clear hx
        go_wp2_with fail
        refine Calls.mono (HD.out _ X0.out) ?_
        rintro e w1 ⟨D0, c0, rfl, hrd, hx⟩
        replace X0 := hid (X0.out.then hx)
        clear hx hrd
        go_wp2
        go_returns
        exact ⟨none, 0, rfl, fun h => absurd h (by simp [cls]), X0.out⟩
      · have hge : (n : Int) ≤ (d : Int) := by
          have : ¬ d < n := fun h => h2 (hda.1 h)
          omega
        by_cases h3 : 64 < k
        · have hj2 : Cel.jchk kind m l = 2 := by unfold Cel.jchk; rw [if_neg (by rw [h1]; simp), if_neg h2, if_pos (by omega)]
          have h3I : (64 : Int) < (k : Int) := by omega
          rw [hj2]
          clear hm hrm hn hr h1 h2 hj2 HJ hda hdl h3
          go_enter Try.func31, Try.ntmps31
          go_wp2_with fail
          refine Calls.mono HC.out ?_
          rintro e w0 ⟨rfl, hx⟩
          have X0 := hid hx
          clear hx
          go_wp2_with fail
          refine Calls.mono (HD.out _ X0.out) ?_
          rintro e w1 ⟨D0, c0, rfl, hrd, hx⟩
          replace X0 := hid (X0.out.then hx)
          clear hx hrd
          go_wp2
          go_returns
          exact ⟨none, 0, rfl, fun h => absurd h (by simp [cls]), X0.out⟩
        · have h4 : m.count true ≠ n := fun h4 => HJ.out (by unfold Cel.jchk; rw [if_neg (by rw [h1]; simp), if_neg h2, if_neg (by omega), if_neg (by rw [h4, hn]; simp)])
          have hj1 : Cel.jchk kind m l = 1 := by unfold Cel.jchk; rw [if_neg (by rw [h1]; simp), if_neg h2, if_neg (by omega), if_pos (by rw [hn]; exact h4)]
          have HCT := hid (fun w' (hx : Ext w w') => countOf_any m k A k ca w' hm (hrm.keep hx) (Nat.le_refl _) (by omega))
          rw [List.take_of_length_le (by omega)] at HCT
          have h3I : (k : Int) ≤ 64 := by omega
          obtain ⟨c, hc⟩ : ∃ c, c = m.count true := ⟨_, rfl⟩
          rw [← hc] at h4 HCT
          have e1 : ((c : Int) == (n : Int)) = false := by rw [beq_eq_false_iff_ne]; omega
          have e2 : ((c : Int) != (n : Int)) = true := by rw [bne_iff_ne]; omega
          rw [hj1]
          clear hm hrm hn hr h1 h2 hj1 HJ hda hdl h3 h4 hc
          go_enter Try.func31, Try.ntmps31
          go_wp2_with fail
          refine Calls.mono HC.out ?_
          rintro e w0 ⟨rfl, hx⟩
          have X0 := hid hx
          clear hx
          go_wp2_with fail
          refine Calls.mono (HD.out _ X0.out) ?_
          rintro e w1 ⟨D0, c0, rfl, hrd, hx⟩
          replace X0 := hid (X0.out.then hx)
          clear hx hrd
          go_wp2_with fail
          refine Calls.mono (HCT.out _ X0.out) ?_
          rintro e _ ⟨rfl, rfl⟩
          go_wp2
          go_returns
          exact ⟨none, 0, rfl, fun h => absurd h (by simp [cls]), X0.out⟩
    · have hjc : Cel.jchk kind m l = Cel.cchk kind l := by unfold Cel.jchk; rw [if_pos h1]
      obtain ⟨c, hc⟩ : ∃ c, c = Cel.cchk kind l := ⟨_, rfl⟩
      have hne : ((c : Int) == 0) = false := by rw [beq_eq_false_iff_ne]; omega
      have hne2 : ((c : Int) != 0) = true := by rw [bne_iff_ne]; omega
      rw [hjc]
      rw [← hc] at HC ⊢
      clear hm hrm hn hr h1 hc hjc HJ
      go_enter Try.func31, Try.ntmps31
      go_wp2_with fail
      refine Calls.mono HC.out ?_
      rintro e w1 ⟨rfl, hx⟩
      have HX := hid hx
      clear hx
      go_wp2
      go_returns
      exact ⟨none, 0, rfl, fun h => absurd h (by simp [cls]), HX.out⟩
end Go.Proofs.Ytikdmnedbfpkeaa
