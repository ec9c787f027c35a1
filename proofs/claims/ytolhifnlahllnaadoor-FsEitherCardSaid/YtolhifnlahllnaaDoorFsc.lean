/- Files: FsCheck: walk. -/
import Derived.Test.YtolhifnlahllnaaDoorFsb
namespace Hy.Fs
/-- a file system: nodes, the directory as it is now, as it is for good -/
abbrev FSy := List Nod × List Ent × List Ent
def big (x : Nod) : Bool := decide (65536 < x.1.size) || decide (65536 < x.2.size)
def lone (f : FSy) (i : Nat) : Bool := !(nmd f.2.1 i || nmd f.2.2 i)
/-- what is wrong with a file system -/
@[irreducible] def fsck (f : FSy) : Nat :=
  if 24 < f.1.length then 2 else if f.1.any big then 2 else if dirck f.1.length f.2.1 ≠ 0 then dirck f.1.length f.2.1 else if dirck f.1.length f.2.2 ≠ 0 then dirck f.1.length f.2.2 else
  if (List.range f.1.length).any (lone f) then 4 else 0
theorem fsck_many {f : FSy} (h : 24 < f.1.length) : fsck f = 2 := by unfold fsck; rw [if_pos h]
theorem fsck_big {f : FSy} (h : ¬ 24 < f.1.length) (h2 : f.1.any big = true) : fsck f = 2 := by unfold fsck; rw [if_neg h, if_pos h2]
theorem fsck_dir {f : FSy} (h : ¬ 24 < f.1.length) (h2 : f.1.any big = false) (h3 : dirck f.1.length f.2.1 ≠ 0) : fsck f = dirck f.1.length f.2.1 := by unfold fsck; rw [if_neg h, if_neg (by rw [h2]; decide), if_pos h3]
theorem fsck_syn {f : FSy} (h : ¬ 24 < f.1.length) (h2 : f.1.any big = false) (h3 : dirck f.1.length f.2.1 = 0) (h4 : dirck f.1.length f.2.2 ≠ 0) : fsck f = dirck f.1.length f.2.2 := by unfold fsck; rw [if_neg h, if_neg (by rw [h2]; decide), if_neg (by omega), if_pos h4]
theorem fsck_lone {f : FSy} (h : ¬ 24 < f.1.length) (h2 : f.1.any big = false) (h3 : dirck f.1.length f.2.1 = 0) (h4 : dirck f.1.length f.2.2 = 0) (i : Nat) (hi : i < f.1.length) (h5 : lone f i = true) : fsck f = 4 := by
  unfold fsck; rw [if_neg h, if_neg (by rw [h2]; decide), if_neg (by omega), if_neg (by omega), if_pos (List.any_eq_true.2 ⟨i, List.mem_range.2 hi, h5⟩)]
theorem fsck_ok {f : FSy} (h : ¬ 24 < f.1.length) (h2 : f.1.any big = false) (h3 : dirck f.1.length f.2.1 = 0) (h4 : dirck f.1.length f.2.2 = 0) (h5 : ∀ i, i < f.1.length → lone f i = false) : fsck f = 0 := by
  unfold fsck; rw [if_neg h, if_neg (by rw [h2]; decide), if_neg (by omega), if_neg (by omega), if_neg]
  rw [List.any_eq_true]
  rintro ⟨i, hi, h6⟩
  rw [h5 i (List.mem_range.1 hi)] at h6; cases h6
theorem big_at {l : List Nod} {k : Nat} (h : k < l.length) (hb : big l[k] = true) : l.any big = true := List.any_eq_true.2 ⟨_, List.getElem_mem h, hb⟩
theorem big_no {l : List Nod} (h : ∀ k (hk : k < l.length), big l[k] = false) : l.any big = false := by
  rw [List.any_eq_false]
  intro x hx
  obtain ⟨k, hk, rfl⟩ := List.getElem_of_mem hx
  rw [h k hk]; decide
end Hy.Fs
namespace Go.Proofs.YtolhifnlahllnaaDoor
open Go.RowKit Hy
set_option maxHeartbeats 3200000 in
set_option maxRecDepth 100000 in
theorem fsCheck_any (f : Fs.FSy) (NA DA SA : Option Addr) (n nc m mc q qc : Nat) (w : World) (hn : f.1.length = n) (hN : Rd w NA (nds f.1)) (hm : f.2.1.length = m) (hD : Rd w DA (ens f.2.1)) (hq : f.2.2.length = q) (hS : Rd w SA (ens f.2.2))
    (hnl : n ≤ 140737488355328) (hml : m ≤ 140737488355328) (hql : q ≤ 140737488355328) (hd : ∀ x ∈ f.2.1, x.1.size ≤ 140737488355328) (hs : ∀ x ∈ f.2.2, x.1.size ≤ 140737488355328) :
    Calls Tryd.prog 20 #[.agg #[.slice NA n nc, .slice DA m mc, .slice SA q qc]] w fun e w' => e = .returned (.int .i64 (Fs.fsck f : Nat)) ∧ Ext w w' := by
  have HN := hid hn
  have HNR := hid hN
  have HC1 := hid (fun wx (hx : Ext w wx) => dirCheck_any f.2.1 n DA m mc wx hm (hD.keep hx) hml hd)
  have HC2 := hid (fun wx (hx : Ext w wx) => dirCheck_any f.2.2 n SA q qc wx hq (hS.keep hx) hql hs)
  have HIN := hid (fun (i : Nat) wx (hx : Ext w wx) => isNamed_any f.2.1 f.2.2 i DA SA m q mc qc wx hm (hD.keep hx) hml hq (hS.keep hx) hql)
  have h71 := Fs.dirck_le n f.2.1
  have h72 := Fs.dirck_le n f.2.2
  have XN := hid (Ext.new (ext_refl w) (.cells #[.slice NA n nc, .slice DA m mc, .slice SA q qc] 25))
  have BN := hid (Blk.new w 25 #[.slice NA n nc, .slice DA m mc, .slice SA q qc])
  by_cases h24 : 24 < n
  · have HV := hid (Fs.fsck_many (f := f) (by omega))
    have hI : (24 : Int) < (n : Int) := by omega
    clear hn hN hm hD hq hS hnl hml hql hd hs h71 h72 h24
    go_enter Tryd.func20, Tryd.ntmps20
    go_wp2
    go_returns
    exact ⟨by rw [HV.out]; rfl, XN.out⟩
  have H24 := hid (show ¬ 24 < f.1.length by omega)
  have hnI : (n : Int) ≤ 24 := by omega
  clear hn hN hm hD hq hS hnl hml hql hd hs h24
  go_enter Tryd.func20, Tryd.ntmps20
  go_upto_region 1 with fail
  refine wp_gen (fun w' => Ext w w' ∧ Blk w' w.heap.size 25 #[.slice NA n nc, .slice DA m mc, .slice SA q qc]) ⟨XN.out, BN.out⟩ ?_
  rintro wz ⟨B, B1⟩
  have HB := hid B
  have HB1 := hid B1
  have a0 := B1.cell 0
  have a1 := B1.cell 1
  have a2 := B1.cell 2
  clear B B1
  go_wp2
  go_loop [3] (fun c => ∃ k : Nat, k ≤ n ∧ c = .int .i64 k ∧ Hid (∀ j (hj : j < f.1.length), j < k → Fs.big f.1[j] = false)) (fun c => n - (intOf c).toNat)
  case atStart => exact ⟨0, Nat.zero_le _, rfl, hid (fun j hj h => absurd h (Nat.not_lt_zero _))⟩
  case round =>
    obtain ⟨k, hk, rfl, HI⟩ := hrel
    by_cases hlt : k < n
    · have hka : k < f.1.length := by rw [HN.out]; exact hlt
      obtain ⟨b1, o1, e1, l1, c1⟩ := HNR.out.nodes k hka
      have d0 := ext_cell HB.out (c1 k hka).1
      have d1 := ext_cell HB.out (c1 k hka).2
      have hkI : (k : Int) < (n : Int) := by omega
      have HBA := hid (fun h => Fs.fsck_big H24.out (Fs.big_at hka h))
      have HI3 := hid (fun (h : Fs.big f.1[k] = false) => (show ∀ j (hj : j < f.1.length), j < k + 1 → Fs.big f.1[j] = false from fun j hj hjk => by
        by_cases he : j = k
        · subst he; exact h
        · exact HI.out j hj (by omega)))
      have he1 := hid e1
      clear c1 e1
      generalize f.1[k] = x at *
      clear hka
      obtain ⟨s, t⟩ := x
      simp only at d0 d1
      by_cases hs1 : 65536 < s.size
      · have HV := hid (HBA.out (by unfold Fs.big; simp [hs1]))
        have hI : (65536 : Int) < (s.size : Int) := by omega
        have e1 := he1.out
        subst e1
        clear hs1 HBA HI3
        go_wp2
        go_returns
        exact ⟨by rw [HV.out]; rfl, HB.out⟩
      · by_cases ht1 : 65536 < t.size
        · have HV := hid (HBA.out (by unfold Fs.big; simp [ht1]))
          have hI : (65536 : Int) < (t.size : Int) := by omega
          have hI2 : (s.size : Int) ≤ 65536 := by omega
          have e1 := he1.out
          subst e1
          clear hs1 ht1 HBA HI3
          go_wp2
          go_returns
          exact ⟨by rw [HV.out]; rfl, HB.out⟩
        · have HI4 := hid (HI3.out (by unfold Fs.big; simp; omega))
          have hI : (t.size : Int) ≤ 65536 := by omega
          have hI2 : (s.size : Int) ≤ 65536 := by omega
          have e1 := he1.out
          subst e1
          clear hs1 ht1 HBA HI3
          go_wp2
          go_round
          case rel => exact ⟨k + 1, by omega, by go_num, HI4⟩
          case measure => simp [intOf]; omega
    · obtain rfl : n = k := by omega
      have HBG := hid (Fs.big_no fun j hj => HI.out j hj (by rw [← HN.out]; exact hj))
      clear hlt HI
      obtain ⟨E, hE⟩ : ∃ E, E = Fs.dirck n f.2.1 := ⟨_, rfl⟩
      obtain ⟨F, hF⟩ : ∃ F, F = Fs.dirck n f.2.2 := ⟨_, rfl⟩
      rw [← hE] at HC1 h71
      rw [← hF] at HC2 h72
      have HE := hid (show Fs.dirck f.1.length f.2.1 = E by rw [HN.out, hE])
      have HF := hid (show Fs.dirck f.1.length f.2.2 = F by rw [HN.out, hF])
      clear hE hF
      by_cases hE0 : E = 0
      · by_cases hF0 : F = 0
        · subst hE0
          subst hF0
          go_wp2_with fail
          refine Calls.mono (HC1.out _ HB.out) ?_
          rintro e w2 ⟨rfl, hx⟩
          replace HB := hid (HB.out.then hx)
          replace HB1 := hid (HB1.out.keep hx)
          replace a0 := HB1.out.cell 0
          replace a1 := HB1.out.cell 1
          replace a2 := HB1.out.cell 2
          clear hx
          go_wp2_with fail
          refine Calls.mono (HC2.out _ HB.out) ?_
          rintro e w3 ⟨rfl, hx⟩
          replace HB := hid (HB.out.then hx)
          replace HB1 := hid (HB1.out.keep hx)
          replace a0 := HB1.out.cell 0
          replace a1 := HB1.out.cell 1
          replace a2 := HB1.out.cell 2
          clear hx
          go_wp2
          go_loop [5] (fun c => ∃ k : Nat, k ≤ n ∧ c = .int .i64 k ∧ Hid (∀ j, j < k → Fs.lone f j = false)) (fun c => n - (intOf c).toNat)
          case atStart => exact ⟨0, Nat.zero_le _, rfl, hid (fun j h => absurd h (Nat.not_lt_zero _))⟩
          case round =>
            obtain ⟨k, hk, rfl, HI⟩ := hrel
            by_cases hlt : k < n
            · have hkI : (k : Int) < (n : Int) := by omega
              have HINK := hid (HIN.out k _ HB.out)
              have HLK := hid (fun h => Fs.fsck_lone H24.out HBG.out HE.out HF.out k (by rw [HN.out]; exact hlt) h)
              have HI3 := hid (fun (h : Fs.lone f k = false) => (show ∀ j, j < k + 1 → Fs.lone f j = false from fun j hjk => by
                by_cases he : j = k
                · subst he; exact h
                · exact HI.out j (by omega)))
              unfold Fs.lone at HLK HI3
              cases hb : (Fs.nmd f.2.1 k || Fs.nmd f.2.2 k) with
              | false =>
                rw [hb] at HINK
                have HV := hid (HLK.out (by rw [hb]; rfl))
                clear hb HLK HI3
                go_wp2_with (go_at_call 52; refine HINK.out.mono ?_; rintro e w4 ⟨rfl, rfl⟩)
                go_returns
                exact ⟨by rw [HV.out]; rfl, HB.out⟩
              | true =>
                rw [hb] at HINK
                have HI4 := hid (HI3.out (by rw [hb]; rfl))
                clear hb HLK HI3
                go_wp2_with (go_at_call 52; refine HINK.out.mono ?_; rintro e w4 ⟨rfl, rfl⟩)
                go_round
                case rel => exact ⟨k + 1, by omega, by go_num, HI4⟩
                case measure => simp [intOf]; omega
            · obtain rfl : n = k := by omega
              have HV := hid (Fs.fsck_ok H24.out HBG.out HE.out HF.out (fun i hi => HI.out i (by rw [← HN.out]; exact hi)))
              clear hlt
              go_wp2
              go_returns
              exact ⟨by rw [HV.out]; rfl, HB.out⟩
        · subst hE0
          have HV := hid (show Fs.fsck f = F by rw [Fs.fsck_syn H24.out HBG.out HE.out (by rw [HF.out]; exact hF0), HF.out])
          have e1 : ((F : Int) != 0) = true := by simp; omega
          clear hF0
          go_wp2_with fail
          refine Calls.mono (HC1.out _ HB.out) ?_
          rintro e w2 ⟨rfl, hx⟩
          replace HB := hid (HB.out.then hx)
          replace HB1 := hid (HB1.out.keep hx)
          replace a0 := HB1.out.cell 0
          replace a1 := HB1.out.cell 1
          replace a2 := HB1.out.cell 2
          clear hx
          go_wp2_with fail
          refine Calls.mono (HC2.out _ HB.out) ?_
          rintro e w3 ⟨rfl, hx⟩
          replace HB := hid (HB.out.then hx)
          clear hx
          go_wp2
          go_returns
          exact ⟨by rw [HV.out]; rfl, HB.out⟩
      · have HV := hid (show Fs.fsck f = E by rw [Fs.fsck_dir H24.out HBG.out (by rw [HE.out]; exact hE0), HE.out])
        have e1 : ((E : Int) != 0) = true := by simp; omega
        have e2 : ((E : Int) == 0) = false := by rw [beq_eq_false_iff_ne]; omega
        clear hE0
        go_wp2_with fail
        refine Calls.mono (HC1.out _ HB.out) ?_
        rintro e w2 ⟨rfl, hx⟩
        replace HB := hid (HB.out.then hx)
        clear hx
        go_wp2
        go_returns
        exact ⟨by rw [HV.out]; rfl, HB.out⟩
end Go.Proofs.YtolhifnlahllnaaDoor
