/- SelectOf, Rank with errors: walks. -/
import Derived.Test.YtikdmnedbfpkeaaDoorRke
namespace Go.Proofs.YtikdmnedbfpkeaaDoor
open Go.RowKit Hy
set_option maxHeartbeats 1600000 in
theorem selectOf_any (l : List Bool) (k : Int) (A : Option Addr) (n cap : Nat) (w : World) (hn : l.length = n) (hr : Rd w A (bls l)) (hnl : n ≤ 140737488355328) :
    Calls Tryd.prog 12 #[.slice A n cap, .int .i64 k] w fun e w' => e = .returned (.tuple #[.int .i64 (Mrk.selV l k).1, .int .i64 (Mrk.selV l k).2]) ∧ w = w' := by
  by_cases hk0 : k < 0
  · have HV := hid (show Mrk.selV l k = (0, 3) by unfold Mrk.selV; rw [if_pos hk0])
    obtain ⟨V, hV⟩ : ∃ V, V = Mrk.selV l k := ⟨_, rfl⟩
    rw [← hV] at HV ⊢
    clear hn hr hV
    go_enter Tryd.func12, Tryd.ntmps12
    go_wp2
    go_returns
    exact ⟨by rw [HV.out]; rfl, rfl⟩
  · obtain ⟨K, rfl⟩ := Int.eq_ofNat_of_zero_le (show 0 ≤ k by omega)
    have HV := hid (show Mrk.selV l (K : Int) = match Mrk.sel l K 0 with | some i => ((i : Int), 0) | none => (0, 5) by unfold Mrk.selV; rw [if_neg hk0, Int.toNat_natCast]; rfl)
    have hs0 : Mrk.sel (l.drop 0) (K - (l.take 0).count true) 0 = Mrk.sel l K 0 := rfl
    obtain ⟨V, hV⟩ : ∃ V, V = Mrk.selV l (K : Int) := ⟨_, rfl⟩
    rw [← hV] at HV ⊢
    generalize Mrk.sel l K 0 = S at *
    have HS0 := hid hs0
    have HC := hid (fun (i : Nat) (h : i ≤ n) => countOf_any l i A n cap w hn hr h hnl)
    have HN := hid hn
    have HA := hid hr
    have hnI : (n : Int) ≤ 140737488355328 := by omega
    clear hn hr hV hs0 hk0 hnl
    go_enter Tryd.func12, Tryd.ntmps12
    go_wp2
    go_loop [6] (fun c => ∃ i : Nat, i ≤ n ∧ c = .int .i64 i ∧ Hid ((l.take i).count true ≤ K) ∧ Hid (Mrk.sel (l.drop i) (K - (l.take i).count true) i = S)) (fun c => n - (intOf c).toNat)
    case atStart => exact ⟨0, Nat.zero_le _, rfl, hid (Nat.zero_le _), HS0⟩
    case round =>
      obtain ⟨i, hi, rfl, HK, HS⟩ := hrel
      by_cases hlt : i < n
      · have hia : i < l.length := by rw [HN.out]; exact hlt
        obtain ⟨b1, o1, e1, l1, c1⟩ := HA.out.bool (by omega)
        subst e1
        have d0 := c1 i hia
        have HCO := hid (HC.out i hi)
        have HT := hid (count_take l i hia)
        have HD := hid (List.drop_eq_getElem_cons hia)
        obtain ⟨b, hb⟩ : ∃ b, b = l[i] := ⟨_, rfl⟩
        rw [← hb] at d0 HT HD
        generalize hcg : (l.take i).count true = C at *
        have HD2 := hid (show Mrk.sel (b :: l.drop (i + 1)) (K - C) i = S by rw [← HD.out]; exact HS.out)
        clear c1 hia hb l1 hcg HD
        cases b with
        | false =>
          have HS2 : Hid (Mrk.sel (l.drop (i + 1)) (K - (l.take (i + 1)).count true) (i + 1) = S) := hid (by rw [HT.out]; exact HD2.out)
          have HK2 : Hid ((l.take (i + 1)).count true ≤ K) := hid (by rw [HT.out]; exact HK.out)
          go_wp2
          go_round
          case rel => exact ⟨i + 1, by omega, by go_num, HK2, HS2⟩
          case measure => simp [intOf]; omega
        | true =>
          by_cases hCK : C = K
          · have hE : ((C : Int) == (K : Int)) = true := by rw [beq_iff_eq]; omega
            have HV2 := hid (show V = ((i : Int), 0) by
              have h := HD2.out
              rw [hCK, Nat.sub_self] at h
              rw [HV.out, ← h]; rfl)
            clear hCK
            go_wp2_with fail
            refine Calls.mono HCO.out ?_
            rintro e _ ⟨rfl, rfl⟩
            go_wp2
            go_returns
            exact ⟨by rw [HV2.out]; rfl, rfl⟩
          · have hE : ((C : Int) == (K : Int)) = false := by rw [beq_eq_false_iff_ne]; omega
            have hle := HK.out
            have HK2 : Hid ((l.take (i + 1)).count true ≤ K) := hid (by rw [HT.out]; show C + 1 ≤ K; omega)
            have HS2 : Hid (Mrk.sel (l.drop (i + 1)) (K - (l.take (i + 1)).count true) (i + 1) = S) := hid (by
              have h := HD2.out
              obtain ⟨d, hd⟩ : ∃ d, K - C = d + 1 := ⟨K - C - 1, by omega⟩
              rw [hd] at h
              rw [HT.out, show K - (C + if true = true then 1 else 0) = d from by simp; omega]
              exact h)
            clear hCK hle
            go_wp2_with fail
            refine Calls.mono HCO.out ?_
            rintro e _ ⟨rfl, rfl⟩
            go_wp2
            go_round
            case rel => exact ⟨i + 1, by omega, by go_num, HK2, HS2⟩
            case measure => simp [intOf]; omega
      · obtain rfl : i = n := by omega
        have HV2 := hid (show V = (0, 5) by
          have h := HS.out
          rw [Mrk.sel_none' _ _ _ (List.drop_of_length_le (by rw [HN.out]; exact Nat.le_refl _))] at h
          rw [HV.out, ← h])
        go_wp2
        go_returns
        exact ⟨by rw [HV2.out]; rfl, rfl⟩
set_option maxHeartbeats 800000 in
theorem rank_all (l : List Bool) (at' : Int) (A : Option Addr) (n cap : Nat) (w : World) (hn : l.length = n) (hr : Rd w A (bls l)) (hcap : n ≤ cap) (hnl : n ≤ 140737488355328) :
    Calls Tryd.prog 9 #[.slice A n cap, .int .i64 at'] w fun e w' => e = .returned (.tuple #[.int .i64 (Mrk.rankV l at').1, .int .i64 (Mrk.rankV l at').2]) ∧ Ext w w' := by
  by_cases h1 : at' < 0 ∨ (n : Int) < at'
  · have HV := hid (show Mrk.rankV l at' = (0, 3) by unfold Mrk.rankV; rw [if_pos (by rw [hn]; exact h1)])
    obtain ⟨V, hV⟩ : ∃ V, V = Mrk.rankV l at' := ⟨_, rfl⟩
    rw [← hV] at HV ⊢
    clear hn hr hV
    go_enter Tryd.func9, Tryd.ntmps9
    rcases h1 with h1 | h1
    · go_wp2
      go_returns
      exact ⟨by rw [HV.out]; rfl, ext_refl _⟩
    · have h0 : ¬ at' < 0 := by omega
      go_wp2
      go_returns
      exact ⟨by rw [HV.out]; rfl, ext_refl _⟩
  · obtain ⟨k, rfl⟩ := Int.eq_ofNat_of_zero_le (show 0 ≤ at' by omega)
    rw [show Mrk.rankV l (k : Int) = ((((l.take k).count true : Nat) : Int), 0) by unfold Mrk.rankV; rw [if_neg (by rw [hn]; exact h1), Int.toNat_natCast]]
    exact rank_any l k A n cap w hn hr hcap (by omega) hnl
end Go.Proofs.YtikdmnedbfpkeaaDoor
