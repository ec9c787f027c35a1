/- rank.each where all lists are right: walk. -/
import Derived.Test.YtikdmnedbfpkeaaDoorMka
namespace Hy
open Go Go.RowKit
/-- lists of marks, all n long, whose headers stand side by side -/
def SlsN (w : World) (b o : Nat) (LL : List (List Bool)) (n : Nat) : Prop :=
  b < w.heap.size ∧ ∀ k (hk : k < LL.length), LL[k].length = n ∧ ∃ A cap, w.cell? ⟨b, o + k, none⟩ = some (.slice A n cap) ∧ Rd w A (bls LL[k])
end Hy
namespace Hy.Mrk
def colAt (LL : List (List Bool)) (i : Nat) : List Bool := LL.map fun l => l[i]?.getD false
theorem colAt_len (LL : List (List Bool)) (i : Nat) : (colAt LL i).length = LL.length := List.length_map _
theorem colAt_take (LL : List (List Bool)) (i k : Nat) (hk : k < LL.length) (hi : i < LL[k].length) : (colAt LL i).take (k + 1) = (colAt LL i).take k ++ [LL[k][i]] := by
  rw [List.take_succ_eq_append_getElem (by rw [colAt_len]; exact hk)]
  congr 1
  unfold colAt
  simp [hi]
def eachL (f : List Bool → Bool) (LL : List (List Bool)) (n : Nat) : List Bool := (List.range n).map fun i => f (colAt LL i)
theorem eachL_succ (f : List Bool → Bool) (LL : List (List Bool)) (n : Nat) : eachL f LL (n + 1) = eachL f LL n ++ [f (colAt LL n)] := by
  unfold eachL; rw [List.range_succ, List.map_append]; rfl
end Hy.Mrk
namespace Go.Proofs.YtikdmnedbfpkeaaDoor
open Go.RowKit Hy
set_option maxHeartbeats 3200000 in
theorem each_and (f : List Bool → Bool) (LL : List (List Bool)) (n m b o cap : Nat) (w : World) (hm : LL.length = m) (hm0 : 0 < m) (hmb : m ≤ 1000) (hn64 : n ≤ 64) (hL : SlsN w b o LL n)
    (hF : ∀ (xs : List Bool) (B : Option Addr) (c : Nat) (wx : World), xs.length = m → Rd wx B (bls xs) → Calls Tryd.prog 36 #[.slice B m c] wx fun e w' => e = .returned (.bool (f xs)) ∧ wx = w') :
    Calls Tryd.prog 35 #[.func (.func 36) #[] #[], .slice (some ⟨b, o, none⟩) m cap] w fun e w' => ∃ B c, e = .returned (.tuple #[.slice B n c, .int .i64 0]) ∧ Rd w' B (bls (Mrk.eachL f LL n)) ∧ Ext w w' := by
  have HM := hid hm
  have HL := hid hL.2
  have hb := hL.1
  have HF := hid hF
  have H64 := hid hn64
  have HMB := hid hmb
  have h64I : ¬ (64 : Int) < (n : Int) := by omega
  have h64J : (n : Int) ≤ 64 := by omega
  have hmI : (m : Int) ≤ 1000 := by omega
  have hm0I : (0 : Int) < (m : Int) := by omega
  have hne : ((n : Int) != (n : Int)) = false := by simp
  obtain ⟨A0, cap0, d00⟩ : ∃ A0 cap0, w.cell? ⟨b, o, none⟩ = some (.slice A0 n cap0) := by
    obtain ⟨A0, cap0, d00, _⟩ := (hL.2 0 (by omega)).2
    exact ⟨A0, cap0, d00⟩
  clear hm hL hF hn64 hmb hm0
  go_enter Tryd.func35, Tryd.ntmps35
  go_wp2
  go_loop [17] (fun c => ∃ k : Nat, k ≤ m ∧ c = .int .i64 k) (fun c => m - (intOf c).toNat)
  case atStart => exact ⟨0, Nat.zero_le _, rfl⟩
  case round =>
    obtain ⟨k, hk, rfl⟩ := hrel
    by_cases hlt : k < m
    · obtain ⟨_, A1, cap1, d1, _⟩ := HL.out k (by rw [HM.out]; exact hlt)
      go_wp2
      go_round
      case rel => exact ⟨k + 1, by omega, by go_num⟩
      case measure => simp [intOf]; omega
    · obtain rfl : k = m := by omega
      clear hlt hk
      go_wp2
      go_loop [27] (fun c => ∃ q : Nat, q ≤ k ∧ c = .int .i64 q) (fun c => k - (intOf c).toNat)
      case atStart => exact ⟨0, Nat.zero_le _, rfl⟩
      case round =>
        obtain ⟨q, hq, rfl⟩ := hrel
        by_cases hlt : q < k
        · obtain ⟨_, A1, cap1, d1, _⟩ := HL.out q (by rw [HM.out]; exact hlt)
          go_wp2
          go_round
          case rel => exact ⟨q + 1, by omega, by go_num⟩
          case measure => simp [intOf]; omega
        · obtain rfl : q = k := by omega
          clear hlt hq
          go_wp2
          go_loopw [10, 43] (fun x c wr => ∃ i : Nat, i ≤ n ∧ c = .int .i64 i ∧ wr.ownsRow w.heap.size 4 1 x i (bls (Mrk.eachL f LL i)) ∧ Ext w wr) (fun _ c _ => n - (intOf c).toNat)
          case atStart => exact ⟨0, Nat.zero_le _, rfl, World.ownsRow_nil _ _ _ _, ext_refl _⟩
          case round =>
            obtain ⟨i, hi, rfl, hown, X⟩ := hrel
            by_cases hlt : i < n
            · have HO := hid hown
              have HX := hid X
              have HE := hid (Mrk.eachL_succ f LL i)
              have hCL := hid (Mrk.colAt_len LL i)
              have hCT := hid (fun k hk hi => Mrk.colAt_take LL i k hk hi)
              have hltI : (i : Int) < (n : Int) := by omega
              generalize Mrk.eachL f LL i = D at *
              generalize Mrk.colAt LL i = C at *
              clear hown X
              go_wp2
              go_loopw [12, 48] (fun y c wy => ∃ k : Nat, k ≤ q ∧ c = .int .i64 k ∧ wy.ownsRow wr.heap.size 4 1 y k (bls (C.take k)) ∧ Ext wr wy) (fun _ c _ => q - (intOf c).toNat)
              case atStart => exact ⟨0, Nat.zero_le _, rfl, World.ownsRow_nil _ _ _ _, ext_refl _⟩
              case round =>
                obtain ⟨k, hk, rfl, hown2, X2⟩ := hrel
                by_cases hlt2 : k < q
                · obtain ⟨hlen, A1, cap1, d1, r1⟩ := HL.out k (by rw [HM.out]; exact hlt2)
                  have hil : i < (LL[k]'(by rw [HM.out]; exact hlt2)).length := by rw [hlen]; exact hlt
                  obtain ⟨b2, o2, e2, l2, c2⟩ := r1.bool (by omega)
                  subst e2
                  have d2 := ((HX.out.then X2).cell (p := ⟨b, o + k, none⟩) hb).trans d1
                  have d3 := ((HX.out.then X2).cell (p := ⟨b2, o2 + i, none⟩) l2).trans (c2 i hil)
                  have HE2 := hid (hCT.out k (by rw [HM.out]; exact hlt2) hil)
                  have HO2 := hid hown2
                  generalize (LL[k]'(by rw [HM.out]; exact hlt2))[i] = z at *
                  have HX2 := hid X2
                  have hs2 := X2.size
                  clear c2 d1 r1 hil hlen hown2 X2 l2
                  go_wp2_with (at_builtin; go_loud (refine wpList_app rfl (.tmp 52) (.tmp 57) rowBl rfl _ k (bls (C.take k)) rfl (own_ext HO2.out (Ext.new (ext_refl _) _)) _ 1 (bls [z]) rfl (Src.rd Tryd.underlying22 _ 1 1 _ rfl (rd_lit rfl rfl) (bls_one _) (fun h => by cases h)) (by have := HMB.out; simp only [maxLen]; omega) (by have := HMB.out; omega) (by simp; omega) ?_; intro v' w5 hown5 hgrow hat hbel))
                  go_roundw
                  case rel => exact ⟨k + 1, by omega, by go_num, by rw [HE2.out, bls_app]; exact hown5, (Ext.new HX2.out _).trans hbel⟩
                  case measure => simp [intOf]; omega
                · obtain rfl : k = q := by omega
                  obtain ⟨B, c, rfl, hrd, hB, hc, hcm⟩ := Rd.owned hown2
                  have e : C.take k = C := List.take_of_length_le (by rw [hCL.out, HM.out]; exact Nat.le_refl _)
                  rw [e] at hrd
                  have HC := hid (HF.out C B c wr (by rw [hCL.out, HM.out]) hrd)
                  have HX2 := hid X2
                  have hs2 := X2.size
                  have hs1 := HX.out.size
                  obtain ⟨z, hz⟩ : ∃ z, z = f C := ⟨_, rfl⟩
                  rw [← hz] at HC HE
                  clear hown2 hrd hB hc hcm X2 hz e hlt2 hk
                  go_wp2_with (first
                    | (at_builtin; go_loud (refine wpList_app rfl (.tmp 60) (.tmp 64) rowBl rfl _ i (bls D) rfl (own_ext HO.out (Ext.new HX2.out _)) _ 1 (bls [z]) rfl (Src.rd Tryd.underlying22 _ 1 1 _ rfl (rd_lit rfl rfl) (bls_one _) (fun h => by cases h)) (by have := H64.out; simp only [maxLen]; omega) (by have := H64.out; omega) (by simp; omega) ?_; intro v' w5 hown5 hgrow hat hbel))
                    | (go_at_call 36; refine HC.out.mono ?_; rintro e _ ⟨rfl, rfl⟩))
                  go_roundw
                  case rel => exact ⟨i + 1, by omega, by go_num, by rw [HE.out, bls_app]; exact hown5, (Ext.new (HX.out.then HX2.out) _).trans hbel⟩
                  case measure => simp [intOf]; omega
            · obtain rfl : i = n := by omega
              obtain ⟨B, c, rfl, hrd, hB, hc, hcm⟩ := Rd.owned hown
              have HRD := hid hrd
              clear hown hrd hB hc hcm
              go_wp2
              go_returns
              exact ⟨B, c, rfl, HRD.out, X⟩
set_option maxHeartbeats 3200000 in
theorem each_or (f : List Bool → Bool) (LL : List (List Bool)) (n m b o cap : Nat) (w : World) (hm : LL.length = m) (hm0 : 0 < m) (hmb : m ≤ 1000) (hn64 : n ≤ 64) (hL : SlsN w b o LL n)
    (hF : ∀ (xs : List Bool) (B : Option Addr) (c : Nat) (wx : World), xs.length = m → Rd wx B (bls xs) → Calls Tryd.prog 37 #[.slice B m c] wx fun e w' => e = .returned (.bool (f xs)) ∧ wx = w') :
    Calls Tryd.prog 35 #[.func (.func 37) #[] #[], .slice (some ⟨b, o, none⟩) m cap] w fun e w' => ∃ B c, e = .returned (.tuple #[.slice B n c, .int .i64 0]) ∧ Rd w' B (bls (Mrk.eachL f LL n)) ∧ Ext w w' := by
  have HM := hid hm
  have HL := hid hL.2
  have hb := hL.1
  have HF := hid hF
  have H64 := hid hn64
  have HMB := hid hmb
  have h64I : ¬ (64 : Int) < (n : Int) := by omega
  have h64J : (n : Int) ≤ 64 := by omega
  have hmI : (m : Int) ≤ 1000 := by omega
  have hm0I : (0 : Int) < (m : Int) := by omega
  have hne : ((n : Int) != (n : Int)) = false := by simp
  obtain ⟨A0, cap0, d00⟩ : ∃ A0 cap0, w.cell? ⟨b, o, none⟩ = some (.slice A0 n cap0) := by
    obtain ⟨A0, cap0, d00, _⟩ := (hL.2 0 (by omega)).2
    exact ⟨A0, cap0, d00⟩
  clear hm hL hF hn64 hmb hm0
  go_enter Tryd.func35, Tryd.ntmps35
  go_wp2
  go_loop [17] (fun c => ∃ k : Nat, k ≤ m ∧ c = .int .i64 k) (fun c => m - (intOf c).toNat)
  case atStart => exact ⟨0, Nat.zero_le _, rfl⟩
  case round =>
    obtain ⟨k, hk, rfl⟩ := hrel
    by_cases hlt : k < m
    · obtain ⟨_, A1, cap1, d1, _⟩ := HL.out k (by rw [HM.out]; exact hlt)
      go_wp2
      go_round
      case rel => exact ⟨k + 1, by omega, by go_num⟩
      case measure => simp [intOf]; omega
    · obtain rfl : k = m := by omega
      clear hlt hk
      go_wp2
      go_loop [27] (fun c => ∃ q : Nat, q ≤ k ∧ c = .int .i64 q) (fun c => k - (intOf c).toNat)
      case atStart => exact ⟨0, Nat.zero_le _, rfl⟩
      case round =>
        obtain ⟨q, hq, rfl⟩ := hrel
        by_cases hlt : q < k
        · obtain ⟨_, A1, cap1, d1, _⟩ := HL.out q (by rw [HM.out]; exact hlt)
          go_wp2
          go_round
          case rel => exact ⟨q + 1, by omega, by go_num⟩
          case measure => simp [intOf]; omega
        · obtain rfl : q = k := by omega
          clear hlt hq
          go_wp2
          go_loopw [10, 43] (fun x c wr => ∃ i : Nat, i ≤ n ∧ c = .int .i64 i ∧ wr.ownsRow w.heap.size 4 1 x i (bls (Mrk.eachL f LL i)) ∧ Ext w wr) (fun _ c _ => n - (intOf c).toNat)
          case atStart => exact ⟨0, Nat.zero_le _, rfl, World.ownsRow_nil _ _ _ _, ext_refl _⟩
          case round =>
            obtain ⟨i, hi, rfl, hown, X⟩ := hrel
            by_cases hlt : i < n
            · have HO := hid hown
              have HX := hid X
              have HE := hid (Mrk.eachL_succ f LL i)
              have hCL := hid (Mrk.colAt_len LL i)
              have hCT := hid (fun k hk hi => Mrk.colAt_take LL i k hk hi)
              have hltI : (i : Int) < (n : Int) := by omega
              generalize Mrk.eachL f LL i = D at *
              generalize Mrk.colAt LL i = C at *
              clear hown X
              go_wp2
              go_loopw [12, 48] (fun y c wy => ∃ k : Nat, k ≤ q ∧ c = .int .i64 k ∧ wy.ownsRow wr.heap.size 4 1 y k (bls (C.take k)) ∧ Ext wr wy) (fun _ c _ => q - (intOf c).toNat)
              case atStart => exact ⟨0, Nat.zero_le _, rfl, World.ownsRow_nil _ _ _ _, ext_refl _⟩
              case round =>
                obtain ⟨k, hk, rfl, hown2, X2⟩ := hrel
                by_cases hlt2 : k < q
                · obtain ⟨hlen, A1, cap1, d1, r1⟩ := HL.out k (by rw [HM.out]; exact hlt2)
                  have hil : i < (LL[k]'(by rw [HM.out]; exact hlt2)).length := by rw [hlen]; exact hlt
                  obtain ⟨b2, o2, e2, l2, c2⟩ := r1.bool (by omega)
                  subst e2
                  have d2 := ((HX.out.then X2).cell (p := ⟨b, o + k, none⟩) hb).trans d1
                  have d3 := ((HX.out.then X2).cell (p := ⟨b2, o2 + i, none⟩) l2).trans (c2 i hil)
                  have HE2 := hid (hCT.out k (by rw [HM.out]; exact hlt2) hil)
                  have HO2 := hid hown2
                  generalize (LL[k]'(by rw [HM.out]; exact hlt2))[i] = z at *
                  have HX2 := hid X2
                  have hs2 := X2.size
                  clear c2 d1 r1 hil hlen hown2 X2 l2
                  go_wp2_with (at_builtin; go_loud (refine wpList_app rfl (.tmp 52) (.tmp 57) rowBl rfl _ k (bls (C.take k)) rfl (own_ext HO2.out (Ext.new (ext_refl _) _)) _ 1 (bls [z]) rfl (Src.rd Tryd.underlying22 _ 1 1 _ rfl (rd_lit rfl rfl) (bls_one _) (fun h => by cases h)) (by have := HMB.out; simp only [maxLen]; omega) (by have := HMB.out; omega) (by simp; omega) ?_; intro v' w5 hown5 hgrow hat hbel))
                  go_roundw
                  case rel => exact ⟨k + 1, by omega, by go_num, by rw [HE2.out, bls_app]; exact hown5, (Ext.new HX2.out _).trans hbel⟩
                  case measure => simp [intOf]; omega
                · obtain rfl : k = q := by omega
                  obtain ⟨B, c, rfl, hrd, hB, hc, hcm⟩ := Rd.owned hown2
                  have e : C.take k = C := List.take_of_length_le (by rw [hCL.out, HM.out]; exact Nat.le_refl _)
                  rw [e] at hrd
                  have HC := hid (HF.out C B c wr (by rw [hCL.out, HM.out]) hrd)
                  have HX2 := hid X2
                  have hs2 := X2.size
                  have hs1 := HX.out.size
                  obtain ⟨z, hz⟩ : ∃ z, z = f C := ⟨_, rfl⟩
                  rw [← hz] at HC HE
                  clear hown2 hrd hB hc hcm X2 hz e hlt2 hk
                  go_wp2_with (first
                    | (at_builtin; go_loud (refine wpList_app rfl (.tmp 60) (.tmp 64) rowBl rfl _ i (bls D) rfl (own_ext HO.out (Ext.new HX2.out _)) _ 1 (bls [z]) rfl (Src.rd Tryd.underlying22 _ 1 1 _ rfl (rd_lit rfl rfl) (bls_one _) (fun h => by cases h)) (by have := H64.out; simp only [maxLen]; omega) (by have := H64.out; omega) (by simp; omega) ?_; intro v' w5 hown5 hgrow hat hbel))
                    | (go_at_call 37; refine HC.out.mono ?_; rintro e _ ⟨rfl, rfl⟩))
                  go_roundw
                  case rel => exact ⟨i + 1, by omega, by go_num, by rw [HE.out, bls_app]; exact hown5, (Ext.new (HX.out.then HX2.out) _).trans hbel⟩
                  case measure => simp [intOf]; omega
            · obtain rfl : i = n := by omega
              obtain ⟨B, c, rfl, hrd, hB, hc, hcm⟩ := Rd.owned hown
              have HRD := hid hrd
              clear hown hrd hB hc hcm
              go_wp2
              go_returns
              exact ⟨B, c, rfl, HRD.out, X⟩
set_option maxHeartbeats 3200000 in
theorem each_not (f : List Bool → Bool) (LL : List (List Bool)) (n m b o cap : Nat) (w : World) (hm : LL.length = m) (hm0 : 0 < m) (hmb : m ≤ 1000) (hn64 : n ≤ 64) (hL : SlsN w b o LL n)
    (hF : ∀ (xs : List Bool) (B : Option Addr) (c : Nat) (wx : World), xs.length = m → Rd wx B (bls xs) → Calls Tryd.prog 38 #[.slice B m c] wx fun e w' => e = .returned (.bool (f xs)) ∧ wx = w') :
    Calls Tryd.prog 35 #[.func (.func 38) #[] #[], .slice (some ⟨b, o, none⟩) m cap] w fun e w' => ∃ B c, e = .returned (.tuple #[.slice B n c, .int .i64 0]) ∧ Rd w' B (bls (Mrk.eachL f LL n)) ∧ Ext w w' := by
  have HM := hid hm
  have HL := hid hL.2
  have hb := hL.1
  have HF := hid hF
  have H64 := hid hn64
  have HMB := hid hmb
  have h64I : ¬ (64 : Int) < (n : Int) := by omega
  have h64J : (n : Int) ≤ 64 := by omega
  have hmI : (m : Int) ≤ 1000 := by omega
  have hm0I : (0 : Int) < (m : Int) := by omega
  have hne : ((n : Int) != (n : Int)) = false := by simp
  obtain ⟨A0, cap0, d00⟩ : ∃ A0 cap0, w.cell? ⟨b, o, none⟩ = some (.slice A0 n cap0) := by
    obtain ⟨A0, cap0, d00, _⟩ := (hL.2 0 (by omega)).2
    exact ⟨A0, cap0, d00⟩
  clear hm hL hF hn64 hmb hm0
  go_enter Tryd.func35, Tryd.ntmps35
  go_wp2
  go_loop [17] (fun c => ∃ k : Nat, k ≤ m ∧ c = .int .i64 k) (fun c => m - (intOf c).toNat)
  case atStart => exact ⟨0, Nat.zero_le _, rfl⟩
  case round =>
    obtain ⟨k, hk, rfl⟩ := hrel
    by_cases hlt : k < m
    · obtain ⟨_, A1, cap1, d1, _⟩ := HL.out k (by rw [HM.out]; exact hlt)
      go_wp2
      go_round
      case rel => exact ⟨k + 1, by omega, by go_num⟩
      case measure => simp [intOf]; omega
    · obtain rfl : k = m := by omega
      clear hlt hk
      go_wp2
      go_loop [27] (fun c => ∃ q : Nat, q ≤ k ∧ c = .int .i64 q) (fun c => k - (intOf c).toNat)
      case atStart => exact ⟨0, Nat.zero_le _, rfl⟩
      case round =>
        obtain ⟨q, hq, rfl⟩ := hrel
        by_cases hlt : q < k
        · obtain ⟨_, A1, cap1, d1, _⟩ := HL.out q (by rw [HM.out]; exact hlt)
          go_wp2
          go_round
          case rel => exact ⟨q + 1, by omega, by go_num⟩
          case measure => simp [intOf]; omega
        · obtain rfl : q = k := by omega
          clear hlt hq
          go_wp2
          go_loopw [10, 43] (fun x c wr => ∃ i : Nat, i ≤ n ∧ c = .int .i64 i ∧ wr.ownsRow w.heap.size 4 1 x i (bls (Mrk.eachL f LL i)) ∧ Ext w wr) (fun _ c _ => n - (intOf c).toNat)
          case atStart => exact ⟨0, Nat.zero_le _, rfl, World.ownsRow_nil _ _ _ _, ext_refl _⟩
          case round =>
            obtain ⟨i, hi, rfl, hown, X⟩ := hrel
            by_cases hlt : i < n
            · have HO := hid hown
              have HX := hid X
              have HE := hid (Mrk.eachL_succ f LL i)
              have hCL := hid (Mrk.colAt_len LL i)
              have hCT := hid (fun k hk hi => Mrk.colAt_take LL i k hk hi)
              have hltI : (i : Int) < (n : Int) := by omega
              generalize Mrk.eachL f LL i = D at *
              generalize Mrk.colAt LL i = C at *
              clear hown X
              go_wp2
              go_loopw [12, 48] (fun y c wy => ∃ k : Nat, k ≤ q ∧ c = .int .i64 k ∧ wy.ownsRow wr.heap.size 4 1 y k (bls (C.take k)) ∧ Ext wr wy) (fun _ c _ => q - (intOf c).toNat)
              case atStart => exact ⟨0, Nat.zero_le _, rfl, World.ownsRow_nil _ _ _ _, ext_refl _⟩
              case round =>
                obtain ⟨k, hk, rfl, hown2, X2⟩ := hrel
                by_cases hlt2 : k < q
                · obtain ⟨hlen, A1, cap1, d1, r1⟩ := HL.out k (by rw [HM.out]; exact hlt2)
                  have hil : i < (LL[k]'(by rw [HM.out]; exact hlt2)).length := by rw [hlen]; exact hlt
                  obtain ⟨b2, o2, e2, l2, c2⟩ := r1.bool (by omega)
                  subst e2
                  have d2 := ((HX.out.then X2).cell (p := ⟨b, o + k, none⟩) hb).trans d1
                  have d3 := ((HX.out.then X2).cell (p := ⟨b2, o2 + i, none⟩) l2).trans (c2 i hil)
                  have HE2 := hid (hCT.out k (by rw [HM.out]; exact hlt2) hil)
                  have HO2 := hid hown2
                  generalize (LL[k]'(by rw [HM.out]; exact hlt2))[i] = z at *
                  have HX2 := hid X2
                  have hs2 := X2.size
                  clear c2 d1 r1 hil hlen hown2 X2 l2
                  go_wp2_with (at_builtin; go_loud (refine wpList_app rfl (.tmp 52) (.tmp 57) rowBl rfl _ k (bls (C.take k)) rfl (own_ext HO2.out (Ext.new (ext_refl _) _)) _ 1 (bls [z]) rfl (Src.rd Tryd.underlying22 _ 1 1 _ rfl (rd_lit rfl rfl) (bls_one _) (fun h => by cases h)) (by have := HMB.out; simp only [maxLen]; omega) (by have := HMB.out; omega) (by simp; omega) ?_; intro v' w5 hown5 hgrow hat hbel))
                  go_roundw
                  case rel => exact ⟨k + 1, by omega, by go_num, by rw [HE2.out, bls_app]; exact hown5, (Ext.new HX2.out _).trans hbel⟩
                  case measure => simp [intOf]; omega
                · obtain rfl : k = q := by omega
                  obtain ⟨B, c, rfl, hrd, hB, hc, hcm⟩ := Rd.owned hown2
                  have e : C.take k = C := List.take_of_length_le (by rw [hCL.out, HM.out]; exact Nat.le_refl _)
                  rw [e] at hrd
                  have HC := hid (HF.out C B c wr (by rw [hCL.out, HM.out]) hrd)
                  have HX2 := hid X2
                  have hs2 := X2.size
                  have hs1 := HX.out.size
                  obtain ⟨z, hz⟩ : ∃ z, z = f C := ⟨_, rfl⟩
                  rw [← hz] at HC HE
                  clear hown2 hrd hB hc hcm X2 hz e hlt2 hk
                  go_wp2_with (first
                    | (at_builtin; go_loud (refine wpList_app rfl (.tmp 60) (.tmp 64) rowBl rfl _ i (bls D) rfl (own_ext HO.out (Ext.new HX2.out _)) _ 1 (bls [z]) rfl (Src.rd Tryd.underlying22 _ 1 1 _ rfl (rd_lit rfl rfl) (bls_one _) (fun h => by cases h)) (by have := H64.out; simp only [maxLen]; omega) (by have := H64.out; omega) (by simp; omega) ?_; intro v' w5 hown5 hgrow hat hbel))
                    | (go_at_call 38; refine HC.out.mono ?_; rintro e _ ⟨rfl, rfl⟩))
                  go_roundw
                  case rel => exact ⟨i + 1, by omega, by go_num, by rw [HE.out, bls_app]; exact hown5, (Ext.new (HX.out.then HX2.out) _).trans hbel⟩
                  case measure => simp [intOf]; omega
            · obtain rfl : i = n := by omega
              obtain ⟨B, c, rfl, hrd, hB, hc, hcm⟩ := Rd.owned hown
              have HRD := hid hrd
              clear hown hrd hB hc hcm
              go_wp2
              go_returns
              exact ⟨B, c, rfl, HRD.out, X⟩
end Go.Proofs.YtikdmnedbfpkeaaDoor
