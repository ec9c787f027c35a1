/- Files: Check: walk (printed by gen_fsg.py). -/
import Derived.Test.YtolhifnlahllnaaDoorFsd
namespace Go.Proofs.YtolhifnlahllnaaDoor
open Go.RowKit Hy
set_option maxHeartbeats 3200000 in
set_option maxRecDepth 100000 in
theorem check_any (f : Fs.FSy) (NA DA SA : Option Addr) (n nc m mc q qc : Nat) (w : World) (hn : f.1.length = n) (hN : Rd w NA (nds f.1)) (hm : f.2.1.length = m) (hD : Rd w DA (ens f.2.1)) (hq : f.2.2.length = q) (hS : Rd w SA (ens f.2.2))
    (hnl : n ≤ 140737488355328) (hml : m ≤ 140737488355328) (hql : q ≤ 140737488355328) (hd : ∀ x ∈ f.2.1, x.1.size ≤ 140737488355328) (hs : ∀ x ∈ f.2.2, x.1.size ≤ 140737488355328)
    (hdi : ∀ x ∈ f.2.1, -9223372036854775808 ≤ x.2 ∧ x.2 ≤ 9223372036854775807) (hsi : ∀ x ∈ f.2.2, -9223372036854775808 ≤ x.2 ∧ x.2 ≤ 9223372036854775807) :
    Calls Tryd.prog 19 #[.agg #[.slice NA n nc, .slice DA m mc, .slice SA q qc]] w fun e w' => e = .returned (.int .i64 (Fs.fsck f : Nat)) ∧ Ext w w' := by
  have HN := hid hn
  have HNR := hid hN
  have HC1 := hid (fun wx (hx : Ext w wx) => dir_any f.2.1 n DA m mc wx hm (hD.keep hx) hml hd hdi)
  have HC2 := hid (fun wx (hx : Ext w wx) => dir_any f.2.2 n SA q qc wx hq (hS.keep hx) hql hs hsi)
  have HIN1 := hid (fun (i : Nat) wx (hx : Ext w wx) => named_any f.2.1 i DA m mc wx hm (hD.keep hx) hml)
  have HIN2 := hid (fun (i : Nat) wx (hx : Ext w wx) => named_any f.2.2 i SA q qc wx hq (hS.keep hx) hql)
  have h71 := Fs.dirck_le n f.2.1
  have h72 := Fs.dirck_le n f.2.2
  have XN := hid (Ext.new (ext_refl w) (.cells #[.slice NA n nc, .slice DA m mc, .slice SA q qc] 25))
  have BN := hid (Blk.new w 25 #[.slice NA n nc, .slice DA m mc, .slice SA q qc])
  by_cases h24 : 24 < n
  · have HV := hid (Fs.fsck_many (f := f) (by omega))
    have hI : (24 : Int) < (n : Int) := by omega
    clear hn hN hm hD hq hS hnl hml hql hd hs hdi hsi h71 h72 h24
    go_enter Tryd.func19, Tryd.ntmps19
    go_wp2
    go_returns
    exact ⟨by rw [HV.out]; rfl, XN.out⟩
  have H24 := hid (show ¬ 24 < f.1.length by omega)
  have hnI : (n : Int) ≤ 24 := by omega
  clear hn hN hm hD hq hS hnl hml hql hd hs hdi hsi h24
  go_enter Tryd.func19, Tryd.ntmps19
  go_upto_region 1 with fail
  refine wp_gen (fun w' => Ext w w' ∧ Blk w' w.heap.size 25 #[.slice NA n nc, .slice DA m mc, .slice SA q qc]) ⟨XN.out, BN.out⟩ ?_
  rintro wz ⟨B, B1⟩
  have HB0 := hid B
  have HB10 := hid B1
  have a0 := B1.cell 0
  have a1 := B1.cell 1
  have a2 := B1.cell 2
  clear B B1
  go_wp2
  go_loopw [16] (fun c wr => ∃ k : Nat, k ≤ n ∧ c = .int .i64 k ∧ Hid (∀ j (hj : j < f.1.length), j < k → Fs.big f.1[j] = false) ∧ Hid (Ext w wr) ∧ Hid (Blk wr w.heap.size 25 #[.slice NA n nc, .slice DA m mc, .slice SA q qc])) (fun c _ => n - (intOf c).toNat)
  case atStart => exact ⟨0, Nat.zero_le _, rfl, hid (fun j hj h => absurd h (Nat.not_lt_zero _)), HB0, HB10⟩
  case round =>
    obtain ⟨k, hk, rfl, HI, HB, HB1⟩ := hrel
    clear a0 a1 a2
    have a0 := HB1.out.cell 0
    have a1 := HB1.out.cell 1
    have a2 := HB1.out.cell 2
    have lg := block_lt_of_cell a0
    simp only at lg
    by_cases hlt : k < n
    · have hka : k < f.1.length := by rw [HN.out]; exact hlt
      obtain ⟨b1, o1, e1, l1, c1⟩ := HNR.out.nodes k hka
      have d0 := ext_cell HB.out (c1 k hka).1
      have d1 := ext_cell HB.out (c1 k hka).2
      have hkI : (k : Int) < (n : Int) := by omega
      have HBA := hid (fun h => Fs.fsck_big H24.out (Fs.big_at hka h))
      have HI3 := hid (fun (h : Fs.big f.1[k] = false) => (show ∀ j (hj : j < f.1.length), j < k + 1 → Fs.big f.1[j] = false from fun j hj hjk => by
        by_cases he : j = k
        · subst he; exact h
        · exact HI.out j hj (by omega)))
      have he1 := hid e1
      clear c1 e1
      generalize f.1[k] = x at *
      clear hka
      obtain ⟨s, t⟩ := x
      simp only at d0 d1
      by_cases hs1 : 65536 < s.size
      · have HV := hid (HBA.out (by unfold Fs.big; simp [hs1]))
        have hI : (65536 : Int) < (s.size : Int) := by omega
        have e1 := he1.out
        subst e1
        clear hs1 HBA HI3
        go_wp2
        go_returns
        exact ⟨by rw [HV.out]; rfl, HB.out.new _⟩
      · by_cases ht1 : 65536 < t.size
        · have HV := hid (HBA.out (by unfold Fs.big; simp [ht1]))
          have hI : (65536 : Int) < (t.size : Int) := by omega
          have hI2 : (s.size : Int) ≤ 65536 := by omega
          have e1 := he1.out
          subst e1
          clear hs1 ht1 HBA HI3
          go_wp2
          go_returns
          exact ⟨by rw [HV.out]; rfl, HB.out.new _⟩
        · have HI4 := hid (HI3.out (by unfold Fs.big; simp; omega))
          have hI : (t.size : Int) ≤ 65536 := by omega
          have hI2 : (s.size : Int) ≤ 65536 := by omega
          have e1 := he1.out
          subst e1
          clear hs1 ht1 HBA HI3
          go_wp2
          go_roundw
          case rel => exact ⟨k + 1, by omega, by go_num, HI4, hid (HB.out.new _), hid (HB1.out.keep (Ext.new (ext_refl _) _))⟩
          case measure => simp [intOf]; omega
    · obtain rfl : n = k := by omega
      have HBG := hid (Fs.big_no fun j hj => HI.out j hj (by rw [← HN.out]; exact hj))
      clear hlt HI
      obtain ⟨E, hE⟩ : ∃ E, E = Fs.dirck n f.2.1 := ⟨_, rfl⟩
      obtain ⟨F, hF⟩ : ∃ F, F = Fs.dirck n f.2.2 := ⟨_, rfl⟩
      rw [← hE] at HC1 h71
      rw [← hF] at HC2 h72
      have HE := hid (show Fs.dirck f.1.length f.2.1 = E by rw [HN.out, hE])
      have HF := hid (show Fs.dirck f.1.length f.2.2 = F by rw [HN.out, hF])
      clear hE hF
      by_cases hE0 : E = 0
      · by_cases hF0 : F = 0
        · subst hE0
          subst hF0
          go_wp2
          refine wp_loop_rounds 3 ?_
          rw [rounds_succ]
          go_wp2_with fail
          refine Calls.mono (HC1.out _ (HB.out.new _)) ?_
          rintro e w2 ⟨rfl, hx⟩
          have HX2 := hid (Ext.then (HB.out.new _) hx)
          have HB12 := hid (HB1.out.keep (Ext.then (Ext.new (ext_refl _) _) hx))
          have f2a := HB12.out.cell 0
          have f2b := HB12.out.cell 1
          have f2c := HB12.out.cell 2
          have g2a := ext_cell hx ((Blk.new wr 23 #[.slice DA m mc, .slice SA q qc]).cell 0)
          have g2b := ext_cell hx ((Blk.new wr 23 #[.slice DA m mc, .slice SA q qc]).cell 1)
          clear hx a0 a1 a2 lg
          have lg2 := block_lt_of_cell f2a
          simp only at lg2
          go_wp2_with fail
          rw [rounds_succ]
          go_wp2_with fail
          refine Calls.mono (HC2.out _ HX2.out) ?_
          rintro e w3 ⟨rfl, hx⟩
          have HX3 := hid (Ext.then HX2.out hx)
          have HB13 := hid (HB12.out.keep hx)
          have f3a := HB13.out.cell 0
          have f3b := HB13.out.cell 1
          have f3c := HB13.out.cell 2
          have g3a := ext_cell hx g2a
          have g3b := ext_cell hx g2b
          clear hx f2a f2b f2c g2a g2b lg2
          have lg3 := block_lt_of_cell f3a
          simp only at lg3
          go_wp2_with fail
          rw [rounds_succ]
          go_wp2
          go_loopw [53] (fun c ws => ∃ k : Nat, k ≤ n ∧ c = .int .i64 k ∧ Hid (∀ j, j < k → Fs.lone f j = false) ∧ Hid (Ext w ws) ∧ Hid (Blk ws w.heap.size 25 #[.slice NA n nc, .slice DA m mc, .slice SA q qc])) (fun c _ => n - (intOf c).toNat)
          case atStart => exact ⟨0, Nat.zero_le _, rfl, hid (fun j h => absurd h (Nat.not_lt_zero _)), HX3, HB13⟩
          case round =>
            obtain ⟨k, hk, rfl, HI, HB, HB1⟩ := hrel
            clear f3a f3b f3c g3a g3b lg3
            have a0 := HB1.out.cell 0
            have a1 := HB1.out.cell 1
            have a2 := HB1.out.cell 2
            by_cases hlt : k < n
            · have hkI : (k : Int) < (n : Int) := by omega
              have HI1 := hid (HIN1.out k)
              have HI2 := hid (HIN2.out k)
              have HLK := hid (fun h => Fs.fsck_lone H24.out HBG.out HE.out HF.out k (by rw [HN.out]; exact hlt) h)
              have HI3 := hid (fun (h : Fs.lone f k = false) => (show ∀ j, j < k + 1 → Fs.lone f j = false from fun j hjk => by
                by_cases he : j = k
                · subst he; exact h
                · exact HI.out j (by omega)))
              unfold Fs.lone at HLK HI3
              cases hb1 : Fs.nmd f.2.1 k with
              | true =>
                rw [hb1] at HI1
                have HI4 := hid (HI3.out (by rw [hb1]; rfl))
                clear hb1 HLK HI3 HI2
                go_wp2_with (go_at_call 50; refine (HI1.out _ HB.out).mono ?_; rintro e w4 ⟨rfl, x4⟩; have X4 := hid x4; have HX4 := hid (HB.out.then x4); have HK4 := hid (HB1.out.keep x4); have f4 := HK4.out.cell 2; clear x4 a0 a1 a2)
                go_roundw
                case rel => exact ⟨k + 1, by omega, by go_num, HI4, HX4, HK4⟩
                case measure => simp [intOf]; omega
              | false =>
                rw [hb1] at HI1
                cases hb2 : Fs.nmd f.2.2 k with
                | true =>
                  rw [hb2] at HI2
                  have HI4 := hid (HI3.out (by rw [hb1, hb2]; rfl))
                  clear hb1 hb2 HLK HI3
                  go_wp2_with (first
                    | (go_at_call 50; refine (HI1.out _ HB.out).mono ?_; rintro e w4 ⟨rfl, x4⟩; have X4 := hid x4; have HX4 := hid (HB.out.then x4); have HK4 := hid (HB1.out.keep x4); have f4 := HK4.out.cell 2; clear x4 a0 a1 a2)
                    | (go_at_call 50; refine (HI2.out _ HX4.out).mono ?_; rintro e w5 ⟨rfl, x5⟩; have HX5 := hid (HX4.out.then x5); have HK5 := hid (HK4.out.keep x5); clear x5 f4))
                  go_roundw
                  case rel => exact ⟨k + 1, by omega, by go_num, HI4, HX5, HK5⟩
                  case measure => simp [intOf]; omega
                | false =>
                  rw [hb2] at HI2
                  have HV := hid (HLK.out (by rw [hb1, hb2]; rfl))
                  clear hb1 hb2 HLK HI3
                  go_wp2_with (first
                    | (go_at_call 50; refine (HI1.out _ HB.out).mono ?_; rintro e w4 ⟨rfl, x4⟩; have X4 := hid x4; have HX4 := hid (HB.out.then x4); have HK4 := hid (HB1.out.keep x4); have f4 := HK4.out.cell 2; clear x4 a0 a1 a2)
                    | (go_at_call 50; refine (HI2.out _ HX4.out).mono ?_; rintro e w5 ⟨rfl, x5⟩; have HX5 := hid (HX4.out.then x5); have HK5 := hid (HK4.out.keep x5); clear x5 f4))
                  go_returns
                  exact ⟨by rw [HV.out]; rfl, HX5.out⟩
            · obtain rfl : n = k := by omega
              have HV := hid (Fs.fsck_ok H24.out HBG.out HE.out HF.out (fun i hi => HI.out i (by rw [← HN.out]; exact hi)))
              clear hlt
              go_wp2
              go_returns
              exact ⟨by rw [HV.out]; rfl, HB.out⟩
        · subst hE0
          have HV := hid (show Fs.fsck f = F by rw [Fs.fsck_syn H24.out HBG.out HE.out (by rw [HF.out]; exact hF0), HF.out])
          have e1 : ((F : Int) != 0) = true := by simp; omega
          clear hF0
          go_wp2
          refine wp_loop_rounds 3 ?_
          rw [rounds_succ]
          go_wp2_with fail
          refine Calls.mono (HC1.out _ (HB.out.new _)) ?_
          rintro e w2 ⟨rfl, hx⟩
          have HX2 := hid (Ext.then (HB.out.new _) hx)
          have HB12 := hid (HB1.out.keep (Ext.then (Ext.new (ext_refl _) _) hx))
          have f2a := HB12.out.cell 0
          have f2b := HB12.out.cell 1
          have f2c := HB12.out.cell 2
          have g2a := ext_cell hx ((Blk.new wr 23 #[.slice DA m mc, .slice SA q qc]).cell 0)
          have g2b := ext_cell hx ((Blk.new wr 23 #[.slice DA m mc, .slice SA q qc]).cell 1)
          clear hx a0 a1 a2 lg
          have lg2 := block_lt_of_cell f2a
          simp only at lg2
          go_wp2_with fail
          rw [rounds_succ]
          go_wp2_with fail
          refine Calls.mono (HC2.out _ HX2.out) ?_
          rintro e w3 ⟨rfl, hx⟩
          have HX3 := hid (Ext.then HX2.out hx)
          have HB13 := hid (HB12.out.keep hx)
          have f3a := HB13.out.cell 0
          have f3b := HB13.out.cell 1
          have f3c := HB13.out.cell 2
          have g3a := ext_cell hx g2a
          have g3b := ext_cell hx g2b
          clear hx f2a f2b f2c g2a g2b lg2
          have lg3 := block_lt_of_cell f3a
          simp only at lg3
          go_wp2
          go_returns
          exact ⟨by rw [HV.out]; rfl, HX3.out⟩
      · have HV := hid (show Fs.fsck f = E by rw [Fs.fsck_dir H24.out HBG.out (by rw [HE.out]; exact hE0), HE.out])
        have e1 : ((E : Int) != 0) = true := by simp; omega
        clear hE0
        go_wp2
        refine wp_loop_rounds 3 ?_
        rw [rounds_succ]
        go_wp2_with fail
        refine Calls.mono (HC1.out _ (HB.out.new _)) ?_
        rintro e w2 ⟨rfl, hx⟩
        have HX2 := hid (Ext.then (HB.out.new _) hx)
        clear hx a0 a1 a2 lg
        go_wp2
        go_returns
        exact ⟨by rw [HV.out]; rfl, HX2.out⟩
end Go.Proofs.YtolhifnlahllnaaDoor
