/- The document's MarksOf (right lists): walks, printed by gen_mrkof.py. -/
import Derived.Test.YtikdmnedbfpkeaaDoorRkg
namespace Go.Proofs.YtikdmnedbfpkeaaDoor
open Go.RowKit Hy
theorem eachL_or (a b : List Bool) (k : Nat) (ha : k < a.length) (hb : k < b.length) : Mrk.eachL fOr [a, b] (k + 1) = Mrk.eachL fOr [a, b] k ++ [a[k] || b[k]] := by
  rw [Mrk.eachL_succ]; simp [Mrk.colAt, fOr, ha, hb]
set_option maxHeartbeats 1600000 in
theorem marksOf_or (a b : List Bool) (A B : Option Addr) (n ca cb : Nat) (w : World) (hn : a.length = n) (hm : b.length = n) (ha : Rd w A (bls a)) (hb : Rd w B (bls b)) (h64 : n ≤ 64) :
    Calls Tryd.prog 22 #[.slice A n ca, .slice B n cb, .bool true] w fun e w' => ∃ C c, e = .returned (.tuple #[.slice C n c, .int .i64 0]) ∧ Rd w' C (bls (Mrk.eachL fOr [a, b] n)) ∧ Ext w w' := by
  have HN := hid hn
  have HM := hid hm
  have HA := hid ha
  have HB := hid hb
  have H64 := hid h64
  have hI : (n : Int) ≤ 64 := by omega
  have h64I : ¬ (64 : Int) < (n : Int) := by omega
  have hne : ((n : Int) != (n : Int)) = false := by simp
  clear hn hm ha hb h64
  go_enter Tryd.func22, Tryd.ntmps22
  go_wp2
  go_loopw [8, 9] (fun x c wr => ∃ k : Nat, k ≤ n ∧ c = .int .i64 k ∧ wr.ownsRow w.heap.size 4 1 x k (bls (Mrk.eachL fOr [a, b] k)) ∧ Ext w wr) (fun _ c _ => n - (intOf c).toNat)
  case atStart => exact ⟨0, Nat.zero_le _, rfl, World.ownsRow_nil _ _ _ _, ext_refl _⟩
  case round =>
    obtain ⟨k, hk, rfl, hown, X⟩ := hrel
    by_cases hlt : k < n
    · have hka : k < a.length := by rw [HN.out]; exact hlt
      have hkb : k < b.length := by rw [HM.out]; exact hlt
      obtain ⟨b1, o1, e1, l1, c1⟩ := HA.out.bool (by omega)
      obtain ⟨b2, o2, e2, l2, c2⟩ := HB.out.bool (by omega)
      subst e1
      subst e2
      have d1 := (X.cell (p := ⟨b1, o1 + k, none⟩) l1).trans (c1 k hka)
      have d2 := (X.cell (p := ⟨b2, o2 + k, none⟩) l2).trans (c2 k hkb)
      have HE := hid (eachL_or a b k hka hkb)
      have HO := hid hown
      generalize a[k] = x at *
      generalize b[k] = y at *
      generalize Mrk.eachL fOr [a, b] k = D at *
      clear c1 c2 hka hkb hown
      cases x with
      | true =>
        go_wp2_with (at_builtin; go_loud (refine wpList_app rfl (.tmp 30) (.tmp 41) rowBl rfl _ k (bls D) rfl (own_ext HO.out (Ext.new (ext_refl _) _)) _ 1 (bls [true]) rfl (Src.rd Tryd.underlying22 _ 1 1 _ rfl (rd_lit rfl rfl) (bls_one _) (fun h => by cases h)) (by have := H64.out; simp only [maxLen]; omega) (by have := H64.out; omega) (by have := X.size; simp; omega) ?_; intro v' w5 hown5 hgrow hat hbel))
        go_roundw
        case rel => exact ⟨k + 1, by omega, by go_num, by rw [HE.out, bls_app]; exact hown5, (Ext.new X _).trans hbel⟩
        case measure => simp [intOf]; omega
      | false =>
        go_wp2_with (at_builtin; go_loud (refine wpList_app rfl (.tmp 30) (.tmp 41) rowBl rfl _ k (bls D) rfl (own_ext HO.out (Ext.new (ext_refl _) _)) _ 1 (bls [y]) rfl (Src.rd Tryd.underlying22 _ 1 1 _ rfl (rd_lit rfl rfl) (bls_one _) (fun h => by cases h)) (by have := H64.out; simp only [maxLen]; omega) (by have := H64.out; omega) (by have := X.size; simp; omega) ?_; intro v' w5 hown5 hgrow hat hbel))
        go_roundw
        case rel => exact ⟨k + 1, by omega, by go_num, by rw [HE.out, bls_app]; exact hown5, (Ext.new X _).trans hbel⟩
        case measure => simp [intOf]; omega
    · obtain rfl : k = n := by omega
      obtain ⟨C, c, rfl, hrd, hB, hc, hcm⟩ := Rd.owned hown
      have HRD := hid hrd
      clear hown hrd hB hc hcm
      go_wp2
      go_returns
      exact ⟨C, c, rfl, HRD.out, X⟩
theorem eachL_and (a b : List Bool) (k : Nat) (ha : k < a.length) (hb : k < b.length) : Mrk.eachL fAnd [a, b] (k + 1) = Mrk.eachL fAnd [a, b] k ++ [a[k] && b[k]] := by
  rw [Mrk.eachL_succ]; simp [Mrk.colAt, fAnd, ha, hb]
set_option maxHeartbeats 1600000 in
theorem marksOf_and (a b : List Bool) (A B : Option Addr) (n ca cb : Nat) (w : World) (hn : a.length = n) (hm : b.length = n) (ha : Rd w A (bls a)) (hb : Rd w B (bls b)) (h64 : n ≤ 64) :
    Calls Tryd.prog 22 #[.slice A n ca, .slice B n cb, .bool false] w fun e w' => ∃ C c, e = .returned (.tuple #[.slice C n c, .int .i64 0]) ∧ Rd w' C (bls (Mrk.eachL fAnd [a, b] n)) ∧ Ext w w' := by
  have HN := hid hn
  have HM := hid hm
  have HA := hid ha
  have HB := hid hb
  have H64 := hid h64
  have hI : (n : Int) ≤ 64 := by omega
  have h64I : ¬ (64 : Int) < (n : Int) := by omega
  have hne : ((n : Int) != (n : Int)) = false := by simp
  clear hn hm ha hb h64
  go_enter Tryd.func22, Tryd.ntmps22
  go_wp2
  go_loopw [8, 9] (fun x c wr => ∃ k : Nat, k ≤ n ∧ c = .int .i64 k ∧ wr.ownsRow w.heap.size 4 1 x k (bls (Mrk.eachL fAnd [a, b] k)) ∧ Ext w wr) (fun _ c _ => n - (intOf c).toNat)
  case atStart => exact ⟨0, Nat.zero_le _, rfl, World.ownsRow_nil _ _ _ _, ext_refl _⟩
  case round =>
    obtain ⟨k, hk, rfl, hown, X⟩ := hrel
    by_cases hlt : k < n
    · have hka : k < a.length := by rw [HN.out]; exact hlt
      have hkb : k < b.length := by rw [HM.out]; exact hlt
      obtain ⟨b1, o1, e1, l1, c1⟩ := HA.out.bool (by omega)
      obtain ⟨b2, o2, e2, l2, c2⟩ := HB.out.bool (by omega)
      subst e1
      subst e2
      have d1 := (X.cell (p := ⟨b1, o1 + k, none⟩) l1).trans (c1 k hka)
      have d2 := (X.cell (p := ⟨b2, o2 + k, none⟩) l2).trans (c2 k hkb)
      have HE := hid (eachL_and a b k hka hkb)
      have HO := hid hown
      generalize a[k] = x at *
      generalize b[k] = y at *
      generalize Mrk.eachL fAnd [a, b] k = D at *
      clear c1 c2 hka hkb hown
      cases x with
      | true =>
        go_wp2_with (at_builtin; go_loud (refine wpList_app rfl (.tmp 43) (.tmp 54) rowBl rfl _ k (bls D) rfl (own_ext HO.out (Ext.new (ext_refl _) _)) _ 1 (bls [y]) rfl (Src.rd Tryd.underlying22 _ 1 1 _ rfl (rd_lit rfl rfl) (bls_one _) (fun h => by cases h)) (by have := H64.out; simp only [maxLen]; omega) (by have := H64.out; omega) (by have := X.size; simp; omega) ?_; intro v' w5 hown5 hgrow hat hbel))
        go_roundw
        case rel => exact ⟨k + 1, by omega, by go_num, by rw [HE.out, bls_app]; exact hown5, (Ext.new X _).trans hbel⟩
        case measure => simp [intOf]; omega
      | false =>
        go_wp2_with (at_builtin; go_loud (refine wpList_app rfl (.tmp 43) (.tmp 54) rowBl rfl _ k (bls D) rfl (own_ext HO.out (Ext.new (ext_refl _) _)) _ 1 (bls [false]) rfl (Src.rd Tryd.underlying22 _ 1 1 _ rfl (rd_lit rfl rfl) (bls_one _) (fun h => by cases h)) (by have := H64.out; simp only [maxLen]; omega) (by have := H64.out; omega) (by have := X.size; simp; omega) ?_; intro v' w5 hown5 hgrow hat hbel))
        go_roundw
        case rel => exact ⟨k + 1, by omega, by go_num, by rw [HE.out, bls_app]; exact hown5, (Ext.new X _).trans hbel⟩
        case measure => simp [intOf]; omega
    · obtain rfl : k = n := by omega
      obtain ⟨C, c, rfl, hrd, hB, hc, hcm⟩ := Rd.owned hown
      have HRD := hid hrd
      clear hown hrd hB hc hcm
      go_wp2
      go_returns
      exact ⟨C, c, rfl, HRD.out, X⟩
end Go.Proofs.YtikdmnedbfpkeaaDoor
