/- rank.Select: walk. -/
import Derived.Test.YtikdmnedbfpkeaaDoorRkj
import Derived.Test.YtikdmnedbfpkeaaDoorRki
namespace Go.Proofs.YtikdmnedbfpkeaaDoor
open Go.RowKit Hy
set_option maxHeartbeats 1600000 in
theorem select_any (l : List Bool) (k : Int) (A : Option Addr) (n cap : Nat) (w : World) (hn : l.length = n) (hr : Rd w A (bls l)) (hnl : n ≤ 140737488355328) (hk : k ≤ 9223372036854775807) (hT : TabOk w) :
    Calls Tryd.prog 10 #[.slice A n cap, .int .i64 k] w fun e w' => e = .returned (.tuple #[.int .i64 (Mrk.selV l k).1, .int .i64 (Mrk.selV l k).2]) ∧ Ext w w' := by
  by_cases hk0 : k < 0
  · have HV := hid (show Mrk.selV l k = (0, 3) by unfold Mrk.selV; rw [if_pos hk0])
    obtain ⟨V, hV⟩ : ∃ V, V = Mrk.selV l k := ⟨_, rfl⟩
    rw [← hV] at HV ⊢
    clear hn hr hV
    go_enter Tryd.func10, Tryd.ntmps10
    go_wp2
    go_returns
    exact ⟨by rw [HV.out]; rfl, ext_refl _⟩
  · obtain ⟨K, rfl⟩ := Int.eq_ofNat_of_zero_le (show 0 ≤ k by omega)
    have HV := hid (show Mrk.selV l (K : Int) = match Mrk.sel l K 0 with | some i => ((i : Int), 0) | none => (0, 5) by unfold Mrk.selV; rw [if_neg hk0, Int.toNat_natCast]; rfl)
    have hs0 : Mrk.sel (l.drop (64 * 0)) K (64 * 0) = Mrk.sel l K 0 := rfl
    obtain ⟨V, hV⟩ : ∃ V, V = Mrk.selV l (K : Int) := ⟨_, rfl⟩
    rw [← hV] at HV ⊢
    generalize Mrk.sel l K 0 = S at *
    have HS0 := hid hs0
    have HW := hid (wordsOf_any l A n cap w hn hr hnl)
    obtain ⟨W, hW⟩ : ∃ W, W = (n + 63) / 64 := ⟨_, rfl⟩
    rw [← hW] at HW
    have HN := hid hn
    have hWI : (W : Int) ≤ 4398046511104 := by omega
    have HWn := hid hW
    have HT := hid hT
    clear hn hr hV hs0 hk0 hW hT hnl
    go_enter Tryd.func10, Tryd.ntmps10
    go_wp2_with fail
    refine Calls.mono HW.out ?_
    rintro e w1 ⟨g, rfl, hB, _, hx⟩
    have HB := hid hB
    have HX := hid hx
    clear hB hx
    go_wp2
    go_loop [1, 14] (fun kk c => ∃ i q : Nat, i ≤ W ∧ q ≤ K ∧ kk = .int .i64 q ∧ c = .int .i64 i ∧ Hid (Mrk.sel (l.drop (64 * i)) q (64 * i) = S)) (fun _ c => W - (intOf c).toNat)
    case atStart => exact ⟨0, K, Nat.zero_le _, Nat.le_refl _, rfl, rfl, HS0⟩
    case round =>
      obtain ⟨i, q, hi, hq, rfl, rfl, HS⟩ := hrel
      by_cases hlt : i < W
      · have hcell := HB.out.cell i
        rw [List.getElem?_toArray, Mk.u64s_words, HN.out, ← HWn.out, Mk.rowW_get _ _ _ hlt] at hcell
        have hx := Mk.wd_lt l i
        have HO := hid (fun wx => onesCount_any (Mk.wd l i) hx wx)
        have HNX := hid (fun h => Mrk.sel_next l i q h)
        have HHE := hid (fun h => Mrk.sel_here l i q h)
        have HPC := hid (show Pop.o64 (Mk.wd l i) = (Mk.chunk l i).count true by rw [Pop.o64_eq]; exact Mrk.pb_chunk l i)
        have hp64 := Pop.o64_le (Mk.wd l i)
        generalize Mk.wd l i = x at *
        obtain ⟨p, hp⟩ : ∃ p, p = Pop.o64 x := ⟨_, rfl⟩
        rw [← hp] at HO HPC hp64
        have HP := hid hp
        have hpI : (p : Int) ≤ 64 := by omega
        have hxI : (x : Int) ≤ 18446744073709551615 := by omega
        have hiI : (i : Int) < (W : Int) := by omega
        by_cases hpq : p ≤ q
        · have hpqI : (p : Int) ≤ (q : Int) := by omega
          have HS2 := hid (show Mrk.sel (l.drop (64 * (i + 1))) (q - p) (64 * (i + 1)) = S by rw [← HS.out, HNX.out (by rw [← HPC.out]; exact hpq), ← HPC.out])
          have hqI : (q : Int) ≤ 9223372036854775807 := by omega
          clear hp64 hx hp HHE HNX
          go_wp2_with fail
          refine Calls.mono (HO.out _) ?_
          rintro e _ ⟨rfl, rfl⟩
          go_wp2
          go_round
          case rel => exact ⟨i + 1, q - p, by omega, by omega, by go_num, by go_num, HS2⟩
          case measure => simp [intOf]; omega
        · have hpqI : ¬ (p : Int) ≤ (q : Int) := by omega
          have HS2 := hid (HS.out.symm.trans (HHE.out (by rw [← HPC.out]; omega)))
          have hqp : q < p := by omega
          have hqI : (q : Int) ≤ 64 := by omega
          have HQ := hid (show x < 18446744073709551616 ∧ q < Pop.o64 x by rw [← hp]; exact ⟨hx, hqp⟩)
          obtain ⟨Z, hZ⟩ : ∃ Z, Z = Mrk.clr x q := ⟨_, rfl⟩
          rw [← hZ] at HS2
          have HZ := hid hZ.symm
          clear hp64 hx hp HHE HNX hqp hpq hZ
          go_wp2_with fail
          refine Calls.mono (HO.out _) ?_
          rintro e _ ⟨rfl, rfl⟩
          clear HO
          go_wp2
          go_loop [1, 7] (fun kk y => ∃ r z : Nat, r ≤ q ∧ kk = .int .i64 r ∧ y = .int .u64 z ∧ Hid (z < 18446744073709551616 ∧ r < Pop.o64 z) ∧ Hid (Mrk.clr z r = Z)) (fun kk _ => (intOf kk).toNat)
          case atStart => exact ⟨q, x, Nat.le_refl _, rfl, rfl, HQ, HZ⟩
          case round =>
            obtain ⟨r, z, hr, rfl, rfl, HR, HC⟩ := hrel
            have h2 := HR.out.1
            have hz0 : z ≠ 0 := by
              rintro rfl
              have := HR.out.2
              rw [Pop.o64_eq, Pop.pb_zero] at this
              omega
            by_cases hr0 : 0 < r
            · obtain ⟨s, rfl⟩ : ∃ s, r = s + 1 := ⟨r - 1, by omega⟩
              have hps := Mrk.pb_step 64 z h2 hz0
              rw [← Pop.o64_eq] at hps
              have hr2 := HR.out.2
              have hlt2 : z &&& (z - 1) < 18446744073709551616 := Nat.lt_of_le_of_lt Nat.and_le_left h2
              have hw1 : IntKind.u64.wrap ((z : Int) - 1) = ((z - 1 : Nat) : Int) := by rw [IntKind.wrap_u64]; omega
              have hw2 := natU64_and z (z - 1) h2 (by omega)
              have HC2 := hid (show Mrk.clr (z &&& (z - 1)) s = Z from HC.out)
              generalize z &&& (z - 1) = y at *
              have HR2 := hid (show y < 18446744073709551616 ∧ s < Pop.o64 y from ⟨hlt2, by omega⟩)
              generalize z - 1 = z1 at *
              have hsI : (s : Int) < 64 := by omega
              clear h2 hz0 hps hr2 hlt2
              go_wp2
              go_round
              case rel => exact ⟨s, y, by omega, by go_num, by go_num, HR2, HC2⟩
              case measure => simp [intOf]
            · obtain rfl : r = 0 := by omega
              have hc : z = Z := HC.out
              subst hc
              have HTZ := hid (tz_any z h2 hz0 _ (HT.out.keep HX.out))
              have htz : Tz.tz 64 z < 64 := (Tz.tz_spec 64 z h2 hz0).choose_spec.2
              have HV2 := hid (show V = (((64 * i + Tz.tz 64 z : Nat) : Int), 0) by rw [HV.out, HS2.out])
              clear h2
              go_wp2_with fail
              refine Calls.mono HTZ.out ?_
              rintro e _ ⟨rfl, rfl⟩
              go_wp2
              go_returns
              exact ⟨by rw [HV2.out]; rfl, HX.out⟩
      · obtain rfl : i = W := by omega
        have HV2 := hid (show V = (0, 5) by
          have h := HS.out
          rw [Mrk.sel_end l i q (by have := HWn.out; have := HN.out; omega)] at h
          rw [HV.out, ← h])
        go_wp2
        go_returns
        exact ⟨by rw [HV2.out]; rfl, HX.out⟩
end Go.Proofs.YtikdmnedbfpkeaaDoor
