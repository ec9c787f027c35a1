/- Conditions: condAlone, Check: walks. Conditions: Check, CondCheck: walks (printed by gen_qpd.py). -/
import Derived.Test.YtolhifnlahllnaaGreatDoorQab
section
namespace Go.Proofs.YtolhifnlahllnaaGreatDoor
open Go.RowKit Hy
set_option maxHeartbeats 3200000 in
theorem condAlone_any (ks : List Int) (c : Cnd) (K : Option Addr) (m kcap : Nat) (w : World) (hm : ks.length = m) (hr : Rd w K (i64s ks)) (hml : m ≤ 140737488355328) :
    Calls Tryz.prog 83 #[cndV c, .slice K m kcap] w fun e w' => e = .returned (.int .i64 (Cnd.al ks c : Nat)) ∧ Ext w w' := by
  obtain ⟨op, col, k, n, s⟩ := c
  have hw := Cnd.al_ways ks op col (k, n, s)
  obtain ⟨R, hR⟩ : ∃ R, R = Cnd.al ks (op, col, k, n, s) := ⟨_, rfl⟩
  rw [← hR] at hw ⊢
  clear hR
  have hmI : (m : Int) ≤ 140737488355328 := by omega
  have XN := hid (Ext.new (ext_refl w) (.cells #[.int .i64 op, .int .i64 col, .int .i64 k, .int .u64 (n : Int), .string s] 58))
  have HS := hid (condSize_any op)
  have hq : ∀ w, (binOp .neq 42 (.agg #[.int .i64 k, .int .u64 (n : Int), .string s]) (.agg #[.int .i64 0, .int .u64 0, .string ⟨#[]⟩])).run Tryz.prog w = .ok (.bool (!decide (((k, n, s) : Cel) = Cnd.O))) w := fun w => cel_neq k 0 n 0 s ⟨#[]⟩ w
  rcases hw with ⟨h1, HE⟩ | ⟨h1, h2, HE⟩ | ⟨h1, h2, h3, HE⟩ | ⟨h5, h6, HE⟩ | ⟨h5, rfl, h7, HE⟩ | ⟨h5, rfl, h7, HE⟩
  · rw [show csz op = -1 by unfold csz; rw [if_pos (.inl h1)]] at HS
    replace HE := hid HE
    clear hr hm hml hq h1
    go_enter Tryz.func83, Tryz.ntmps83
    go_wp2_with (go_at_call 84; refine (HS.out _).mono ?_; rintro e w1 ⟨rfl, rfl⟩)
    go_returns
    exact ⟨by rw [HE.out]; rfl, XN.out⟩
  · rw [show csz op = -1 by unfold csz; rw [if_pos (.inr h2)]] at HS
    replace HE := hid HE
    clear hr hm hml hq h1 h2
    go_enter Tryz.func83, Tryz.ntmps83
    go_wp2_with (go_at_call 84; refine (HS.out _).mono ?_; rintro e w1 ⟨rfl, rfl⟩)
    go_returns
    exact ⟨by rw [HE.out]; rfl, XN.out⟩
  · rw [show csz op = 0 by unfold csz; rw [if_neg (by omega), h3]; rfl] at HS
    by_cases h4 : col < 0
    · rw [Cnd.lf_out (.inl h4)] at HE
      replace HE := hid HE
      clear hr hm hml hq h1 h2 h3
      go_enter Tryz.func83, Tryz.ntmps83
      go_wp2_with (go_at_call 84; refine (HS.out _).mono ?_; rintro e w1 ⟨rfl, rfl⟩)
      go_returns
      exact ⟨by rw [HE.out]; rfl, XN.out⟩
    by_cases h5 : (m : Int) ≤ col
    · rw [Cnd.lf_out (.inr (by rw [hm]; exact h5))] at HE
      replace HE := hid HE
      clear hr hm hml hq h1 h2 h3
      go_enter Tryz.func83, Tryz.ntmps83
      go_wp2_with (go_at_call 84; refine (HS.out _).mono ?_; rintro e w1 ⟨rfl, rfl⟩)
      go_returns
      exact ⟨by rw [HE.out]; rfl, XN.out⟩
    obtain ⟨j, rfl⟩ : ∃ j : Nat, col = (j : Int) := ⟨col.toNat, by omega⟩
    have hj : j < ks.length := by omega
    have hjm : (j : Int) < (m : Int) := by omega
    obtain ⟨b, o, rfl, lb, cb⟩ := hr.ints j hj
    have d0 := cb j hj
    rw [Cnd.lf_in j hj] at HE
    clear cb hr hm hml h1 h2 h3 h4 h5
    generalize ks[j] = kd at *
    clear hj
    have hw := Cnd.lfk_ways kd op (k, n, s)
    rw [← HE] at hw
    clear HE
    have HAL := hid (cellCheck_any kd (k, n, s))
    have hE7 := Cel.alone_le kd (k, n, s)
    obtain ⟨E, hE⟩ : ∃ E, E = Cel.alone kd (k, n, s) := ⟨_, rfl⟩
    rw [← hE] at HAL hw hE7
    clear hE
    have hdr : ∀ wz : World, Ext w wz → wz.cell? ⟨b, o + j, none⟩ = some (.int .i64 kd) := fun wz B => (B.cell (p := ⟨b, o + j, none⟩) lb).trans d0
    rcases hw with ⟨g1, HE⟩ | ⟨g1, rfl, g3, HE⟩ | ⟨g1, rfl, g3, HE⟩ | ⟨g1, g2, g3, HE⟩ | ⟨g1, g2, rfl, g4, HE⟩ | ⟨g1, g2, rfl, g4, HE⟩
    · have k1 : (kd != 1) = true := by simp; omega
      have k2 : (kd != 2) = true := by simp; omega
      replace HE := hid HE
      clear g1 hE7 hq hdr
      go_enter Tryz.func83, Tryz.ntmps83
      go_wp2_with (go_at_call 84; refine (HS.out _).mono ?_; rintro e w1 ⟨rfl, rfl⟩)
      go_returns
      exact ⟨by rw [HE.out]; rfl, XN.out⟩
    · rw [decide_eq_true g3] at hq
      replace HE := hid HE
      clear hE7 g3 hdr
      rcases g1 with rfl | rfl
      all_goals (
        go_enter Tryz.func83, Tryz.ntmps83
        go_wp2_with (go_at_call 84; refine (HS.out _).mono ?_; rintro e w1 ⟨rfl, rfl⟩)
        go_returns
        exact ⟨by rw [HE.out]; rfl, XN.out⟩)
    · rw [decide_eq_false g3] at hq
      replace HE := hid HE
      clear hE7 g3 hdr
      rcases g1 with rfl | rfl
      all_goals (
        go_enter Tryz.func83, Tryz.ntmps83
        go_wp2_with (go_at_call 84; refine (HS.out _).mono ?_; rintro e w1 ⟨rfl, rfl⟩)
        go_returns
        exact ⟨by rw [HE.out]; rfl, XN.out⟩)
    all_goals (
      have e4 : (op == 4) = false := beq_eq_false_iff_ne.2 g2
      clear g2 hq)
    · have e1 : ((E : Int) == 0) = false := by rw [beq_eq_false_iff_ne]; omega
      replace HE := hid HE
      clear hE7 g3
      rcases g1 with rfl | rfl
      all_goals (
        go_enter Tryz.func83, Tryz.ntmps83
        go_wp2_with (go_at_call 84; refine (HS.out _).mono ?_; rintro e w1 ⟨rfl, rfl⟩)
        refine wp_gen (fun w' => Ext w w' ∧ Blk w' w.heap.size 58 #[.int .i64 op, .int .i64 j, .int .i64 k, .int .u64 (n : Int), .string s]) ⟨XN.out, Blk.new _ _ _⟩ ?_
        rintro wz ⟨B, B1⟩
        have a0 := cell_regrown (B1.cell 0)
        have a1 := cell_regrown (B1.cell 1)
        have a2 := cell_regrown (B1.cell 2)
        have a3 := cell_regrown (B1.cell 3)
        have a4 := cell_regrown (B1.cell 4)
        have d1 := cell_regrown (hdr wz B)
        refine wp_region_quiet_below (by kernel_rfl) (by kernel_rfl) ?_
        repeat (go_big_quiet_step ((go_at_call 71; exact Gives.quiet HAL.out _ _ _)))
        refine wpQuiet_nil ?_
        intro w9 hw9
        obtain ⟨p, rfl⟩ := hw9
        go_wp2
        go_returns
        exact ⟨by rw [HE.out]; rfl, B.then (ext_regrown wz p)⟩)
    · simp only at g4
      subst g4
      replace HE := hid HE
      clear hE7
      rcases g1 with rfl | rfl
      all_goals (
        go_enter Tryz.func83, Tryz.ntmps83
        go_wp2_with (go_at_call 84; refine (HS.out _).mono ?_; rintro e w1 ⟨rfl, rfl⟩)
        refine wp_gen (fun w' => Ext w w' ∧ Blk w' w.heap.size 58 #[.int .i64 op, .int .i64 j, .int .i64 0, .int .u64 (n : Int), .string s]) ⟨XN.out, Blk.new _ _ _⟩ ?_
        rintro wz ⟨B, B1⟩
        have a0 := cell_regrown (B1.cell 0)
        have a1 := cell_regrown (B1.cell 1)
        have a2 := cell_regrown (B1.cell 2)
        have a3 := cell_regrown (B1.cell 3)
        have a4 := cell_regrown (B1.cell 4)
        have d1 := cell_regrown (hdr wz B)
        refine wp_region_quiet_below (by kernel_rfl) (by kernel_rfl) ?_
        repeat (go_big_quiet_step ((go_at_call 71; exact Gives.quiet HAL.out _ _ _)))
        refine wpQuiet_nil ?_
        intro w9 hw9
        obtain ⟨p, rfl⟩ := hw9
        go_wp2
        go_returns
        exact ⟨by rw [HE.out]; rfl, B.then (ext_regrown wz p)⟩)
    · have e0 : (k == 0) = false := beq_eq_false_iff_ne.2 g4
      replace HE := hid HE
      clear hE7 g4
      rcases g1 with rfl | rfl
      all_goals (
        go_enter Tryz.func83, Tryz.ntmps83
        go_wp2_with (go_at_call 84; refine (HS.out _).mono ?_; rintro e w1 ⟨rfl, rfl⟩)
        refine wp_gen (fun w' => Ext w w' ∧ Blk w' w.heap.size 58 #[.int .i64 op, .int .i64 j, .int .i64 k, .int .u64 (n : Int), .string s]) ⟨XN.out, Blk.new _ _ _⟩ ?_
        rintro wz ⟨B, B1⟩
        have a0 := cell_regrown (B1.cell 0)
        have a1 := cell_regrown (B1.cell 1)
        have a2 := cell_regrown (B1.cell 2)
        have a3 := cell_regrown (B1.cell 3)
        have a4 := cell_regrown (B1.cell 4)
        have d1 := cell_regrown (hdr wz B)
        refine wp_region_quiet_below (by kernel_rfl) (by kernel_rfl) ?_
        repeat (go_big_quiet_step ((go_at_call 71; exact Gives.quiet HAL.out _ _ _)))
        refine wpQuiet_nil ?_
        intro w9 hw9
        obtain ⟨p, rfl⟩ := hw9
        go_wp2
        go_returns
        exact ⟨by rw [HE.out]; rfl, B.then (ext_regrown wz p)⟩)
  · have e6 : (col != 0) = true := by simp; exact h6
    replace HE := hid HE
    clear hr hm hml hq h6
    rcases h5 with rfl | rfl | rfl
    all_goals (
      go_enter Tryz.func83, Tryz.ntmps83
      go_wp2_with (go_at_call 84; refine (HS.out _).mono ?_; rintro e w1 ⟨rfl, rfl⟩)
      go_returns
      exact ⟨by rw [HE.out]; rfl, XN.out⟩)
  · rw [decide_eq_false h7] at hq
    replace HE := hid HE
    clear hr hm hml h7
    rcases h5 with rfl | rfl | rfl
    all_goals (
      go_enter Tryz.func83, Tryz.ntmps83
      go_wp2_with (go_at_call 84; refine (HS.out _).mono ?_; rintro e w1 ⟨rfl, rfl⟩)
      go_returns
      exact ⟨by rw [HE.out]; rfl, XN.out⟩)
  · rw [decide_eq_true h7] at hq
    replace HE := hid HE
    clear hr hm hml h7
    rcases h5 with rfl | rfl | rfl
    all_goals (
      go_enter Tryz.func83, Tryz.ntmps83
      go_wp2_with (go_at_call 84; refine (HS.out _).mono ?_; rintro e w1 ⟨rfl, rfl⟩)
      go_returns
      exact ⟨by rw [HE.out]; rfl, XN.out⟩)
end Go.Proofs.YtolhifnlahllnaaGreatDoor
end
section
namespace Go.Proofs.YtolhifnlahllnaaGreatDoor
open Go.RowKit Hy
set_option maxHeartbeats 6400000 in
theorem condCheck_any (ks : List Int) (p : List Cnd) (P K : Option Addr) (n pcap m kcap : Nat) (w : World) (hn : p.length = n) (hp : Rd w P (cns p)) (hnl : n ≤ 140737488355328) (hm : ks.length = m) (hk : Rd w K (i64s ks)) (hml : m ≤ 140737488355328) :
    Calls Tryz.prog 49 #[.slice P n pcap, .slice K m kcap] w fun e w' => e = .returned (.int .i64 (Cnd.chk ks p : Nat)) ∧ Ext w w' := by
  have HN := hid hn
  have HP := hid hp
  obtain ⟨R, hR⟩ : ∃ R, R = Cnd.chk ks p := ⟨_, rfl⟩
  rw [← hR]
  have HR := hid (show R = if 16 < p.length then 2 else Cnd.pk ks 0 p by rw [hR]; unfold Cnd.chk; rfl)
  have HC := hid (fun (c : Cnd) wx (hx : Ext w wx) => condAlone_any ks c K m kcap wx hm (hk.keep hx) hml)
  have hnI : (n : Int) ≤ 140737488355328 := by omega
  clear hR hp hn hk hm hml
  by_cases h16 : 16 < n
  · have HE := hid (show R = 2 by rw [HR.out, if_pos (by rw [HN.out]; exact h16)])
    have hI : 16 < (n : Int) := by omega
    clear HR h16 hnl
    go_enter Tryz.func49, Tryz.ntmps49
    go_wp2
    go_returns
    exact ⟨by rw [HE.out]; rfl, ext_refl _⟩
  have hI : (n : Int) ≤ 16 := by omega
  have HR0 := hid (show R = Cnd.pk ks 0 (p.drop 0) by rw [HR.out, if_neg (by rw [HN.out]; exact h16)]; rfl)
  clear HR h16 hnl

  go_enter Tryz.func49, Tryz.ntmps49
  go_wp2
  go_loopw [5, 6, 7] (fun x c _ wr => ∃ k o : Nat, k ≤ n ∧ o ≤ k ∧ c = .int .i64 k ∧ x = .int .i64 o ∧ Hid (R = Cnd.pk ks o (p.drop k)) ∧ Ext w wr) (fun _ c _ _ => n - (intOf c).toNat)
  case atStart => exact ⟨0, 0, Nat.zero_le _, Nat.le_refl _, rfl, rfl, HR0, ext_refl _⟩
  case round =>
    obtain ⟨k, o, hk, hok, rfl, rfl, HI, X⟩ := hrel
    by_cases hlt : k < n
    · have hka : k < p.length := by rw [HN.out]; exact hlt
      obtain ⟨b1, o1, e1, l1, c1⟩ := HP.out.cnds k hka
      subst e1
      have d0 := (X.cell (p := ⟨b1, o1 + k * 5, none⟩) l1).trans (c1 k hka).1
      have d1 := (X.cell (p := ⟨b1, o1 + k * 5 + 1, none⟩) l1).trans (c1 k hka).2.1
      have d2 := (X.cell (p := ⟨b1, o1 + k * 5 + 2, none⟩) l1).trans (c1 k hka).2.2.1
      have d3 := (X.cell (p := ⟨b1, o1 + k * 5 + 3, none⟩) l1).trans (c1 k hka).2.2.2.1
      have d4 := (X.cell (p := ⟨b1, o1 + k * 5 + 4, none⟩) l1).trans (c1 k hka).2.2.2.2
      have HCC := hid (HC.out p[k])
      have HBA := hid (fun h => Cnd.pk_bad (ks := ks) (o := o) hka h)
      have HBF := hid (fun h h2 => Cnd.pk_few (ks := ks) (o := o) hka h h2)
      have HBN := hid (fun h h2 => Cnd.pk_next (ks := ks) (o := o) hka h h2)
      clear c1
      generalize p[k] = c at *
      clear hka
      obtain ⟨op, col, kk, nn, ss⟩ := c
      simp only at d0 d1 d2 d3 d4
      have hoI : (o : Int) ≤ (k : Int) := by omega
      have hkI : (k : Int) < (n : Int) := by omega

      have HPT := hid (condSize_any op)
      have L1 := hid (Nat.lt_of_lt_of_le l1 X.size)
      obtain ⟨E, hE⟩ : ∃ E, E = Cnd.al ks (op, col, kk, nn, ss) := ⟨_, rfl⟩
      have hE7 := Cnd.al_le ks (op, col, kk, nn, ss)
      have HRG := hid (fun h => Cnd.al_rng (ks := ks) (c := (op, col, kk, nn, ss)) h)
      rw [← hE] at HBA HBF HBN hE7 HCC HRG
      clear hE
      by_cases hE0 : E = 0
      · subst hE0
        have hcs : csz op = (Cnd.sz op : Nat) := by unfold csz; rw [if_neg (by have := HRG.out rfl; simp only at this; omega)]
        have hsz := Cnd.sz_le op
        obtain ⟨q, hs⟩ : ∃ q : Nat, Cnd.sz op = q := ⟨_, rfl⟩
        have HSZ := hid hs
        rw [hcs, hs] at HPT
        rw [hs] at hsz
        clear hs hcs
        by_cases hof : o < q
        · have HV := hid (show R = 1 by rw [HI.out, HBF.out rfl (by simp only; rw [HSZ.out]; exact hof)])
          have hofI : (o : Int) < (q : Int) := by omega
          clear HBA HBF HBN HI HSZ hof HRG hE7
          go_wp2_with (first | (go_at_call 83; go_loud (refine (HCC.out _ X).mono ?_; rintro e w2 ⟨rfl, x2⟩; have X2 := hid x2; clear x2; replace d0 := (X2.out.cell (p := ⟨b1, o1 + k * 5, none⟩) L1.out).trans d0)) | (go_at_call 84; refine (HPT.out _).mono ?_; rintro e w1 ⟨rfl, rfl⟩))
          go_returns
          exact ⟨by rw [HV.out]; rfl, X.then X2.out⟩
        · have HN2 := hid (show R = Cnd.pk ks (o - q + 1) (p.drop (k + 1)) by
            rw [HI.out, HBN.out rfl (by simp only; rw [HSZ.out]; exact hof)]; simp only; rw [HSZ.out])
          have hofI : (q : Int) ≤ (o : Int) := by omega
          have hqI2 : (q : Int) ≤ 2 := by omega
          have HQ := hid (show q ≤ o from by omega)
          clear HBA HBF HBN HI HSZ hof HRG hE7
          go_wp2_with (first | (go_at_call 83; go_loud (refine (HCC.out _ X).mono ?_; rintro e w2 ⟨rfl, x2⟩; have X2 := hid x2; clear x2; replace d0 := (X2.out.cell (p := ⟨b1, o1 + k * 5, none⟩) L1.out).trans d0)) | (go_at_call 84; refine (HPT.out _).mono ?_; rintro e w1 ⟨rfl, rfl⟩))
          go_roundw
          case rel => exact ⟨k + 1, o - q + 1, by omega, by have := HQ.out; omega, by go_num, by have := HQ.out; go_num, HN2, X.then X2.out⟩
          case measure => simp [intOf]; omega
      · have HV := hid (show R = E by rw [HI.out, HBA.out hE0])
        have e1 : ((E : Int) != 0) = true := by simp; omega
        clear HBA HBF HBN hE7 HI hE0 HRG
        go_wp2_with (first | (go_at_call 83; go_loud (refine (HCC.out _ X).mono ?_; rintro e w2 ⟨rfl, x2⟩; have X2 := hid x2; clear x2; replace d0 := (X2.out.cell (p := ⟨b1, o1 + k * 5, none⟩) L1.out).trans d0)) | (go_at_call 84; refine (HPT.out _).mono ?_; rintro e w1 ⟨rfl, rfl⟩))
        go_returns
        exact ⟨by rw [HV.out]; rfl, X.then X2.out⟩
    · obtain rfl : k = n := by omega
      have HE := hid (show R = if o = 1 then 0 else 1 by rw [HI.out, List.drop_of_length_le (by rw [HN.out]; exact Nat.le_refl _)]; rfl)
      clear HI
      by_cases h1 : o = 1
      · subst h1
        go_wp2
        go_returns
        exact ⟨by rw [HE.out]; rfl, X⟩
      · have e1 : ((o : Int) != 1) = true := by simp; omega
        have HE2 := hid (show R = 1 by rw [HE.out, if_neg h1])
        clear h1 HE
        go_wp2
        go_returns
        exact ⟨by rw [HE2.out]; rfl, X⟩
end Go.Proofs.YtolhifnlahllnaaGreatDoor
end
