/- Lists of cells: DenseOf, SameCells: walks. -/
import Derived.Test.YtikdmnedbfpkeaaCef
namespace Hy.Cel
def dense (l : List Cel) : List Cel := l.filter fun c => decide (c.1 ≠ 0)
theorem dense_yes (l : List Cel) (k : Nat) (h : k < l.length) (hc : l[k].1 ≠ 0) : dense (l.take (k + 1)) = dense (l.take k) ++ [l[k]] := by
  unfold dense; rw [List.take_succ_eq_append_getElem h, List.filter_append, List.filter_cons_of_pos (by simpa using hc)]; rfl
theorem dense_no (l : List Cel) (k : Nat) (h : k < l.length) (hc : l[k].1 = 0) : dense (l.take (k + 1)) = dense (l.take k) := by
  unfold dense; rw [List.take_succ_eq_append_getElem h, List.filter_append, List.filter_cons_of_neg (by simpa using hc)]; simp only [List.filter_nil, List.append_nil]
theorem dense_len (l : List Cel) : (dense l).length ≤ l.length := List.length_filter_le _ _
end Hy.Cel
namespace Hy
def sameCells (a b : List Cel) : Bool := decide (a = b)
end Hy
namespace Go.Proofs.Ytikdmnedbfpkeaa
open Go.RowKit Hy
theorem rowCl : RowT Try.prog 22 25 3 32 := RowT.mk' (z := .agg #[.int .i64 0, .int .u64 0, .string .empty]) Try.underlying22 (by kernel_rfl) rfl (by decide)
set_option maxHeartbeats 1600000 in
theorem denseOf_any (l : List Cel) (A : Option Addr) (n cap : Nat) (w : World) (hn : l.length = n) (hr : Rd w A (cls l)) (hnl : n ≤ 1000000000000) :
    Calls Try.prog 28 #[.slice A n cap] w fun e w' => ∃ B c, e = .returned (.slice B (Cel.dense l).length c) ∧ Rd w' B (cls (Cel.dense l)) ∧ Ext w w' := by
  have HN := hid hn
  have HA := hid hr
  have HL := hid hnl
  have hnI : (n : Int) ≤ 1000000000000 := by omega
  clear hn hr hnl
  go_enter Try.func28, Try.ntmps28
  go_wp2
  go_loopw [3, 4] (fun x c wr => ∃ k : Nat, k ≤ n ∧ c = .int .i64 k ∧ wr.ownsRow w.heap.size 25 3 x (Cel.dense (l.take k)).length (cls (Cel.dense (l.take k))) ∧ Ext w wr) (fun _ c _ => n - (intOf c).toNat)
  case atStart => exact ⟨0, Nat.zero_le _, rfl, World.ownsRow_nil _ _ _ _, ext_refl _⟩
  case round =>
    obtain ⟨k, hk, rfl, hown, X⟩ := hrel
    by_cases hlt : k < n
    · have hka : k < l.length := by rw [HN.out]; exact hlt
      obtain ⟨b1, o1, e1, l1, c1⟩ := HA.out.cels k hka
      subst e1
      have d0 := (X.cell (p := ⟨b1, o1 + k * 3, none⟩) l1).trans (c1 k hka).1
      have d1 := (X.cell (p := ⟨b1, o1 + k * 3 + 1, none⟩) l1).trans (c1 k hka).2.1
      have d2 := (X.cell (p := ⟨b1, o1 + k * 3 + 2, none⟩) l1).trans (c1 k hka).2.2
      have HY := hid (Cel.dense_yes l k hka)
      have HNO := hid (Cel.dense_no l k hka)
      have hDL := Cel.dense_len (l.take k)
      have HDL := hid (show (Cel.dense (l.take k)).length ≤ n by rw [List.length_take] at hDL; omega)
      have HO := hid hown
      generalize l[k] = c at *
      generalize Cel.dense (l.take k) = D at *
      obtain ⟨kk, nn, ss⟩ := c
      simp only at d0 d1 d2 HY HNO
      clear c1 hka hown hDL
      by_cases hk0 : kk = 0
      · have HE := hid (HNO.out hk0)
        subst hk0
        go_wp2
        go_roundw
        case rel => exact ⟨k + 1, by omega, by go_num, by rw [HE.out]; exact HO.out, X⟩
        case measure => simp [intOf]; omega
      · have HE := hid (HY.out hk0)
        have e1 : (kk == 0) = false := by simpa using hk0
        have e2 : (kk != 0) = true := by simpa using hk0
        clear hk0
        go_wp2_with (at_builtin; go_loud (refine wpList_app rfl (.tmp 17) (.tmp 22) rowCl rfl _ D.length (cls D) rfl (own_ext HO.out (Ext.new (ext_refl _) _)) _ 1 (cls [(kk, nn, ss)]) rfl (Src.rd Try.underlying22 _ 1 1 _ rfl (rd_lit rfl rfl) (cls_one _) (fun h => by cases h)) (by have := HDL.out; have := HL.out; simp only [maxLen]; omega) (by have := HDL.out; have := HL.out; omega) (by have := X.size; simp; omega) ?_; intro v' w5 hown5 hgrow hat hbel))
        go_roundw
        case rel => exact ⟨k + 1, by omega, by go_num, by rw [HE.out, List.length_append, cls_app]; exact hown5, (Ext.new X _).trans hbel⟩
        case measure => simp [intOf]; omega
    · obtain rfl : k = n := by omega
      obtain ⟨B, c, rfl, hrd, hB, hc, hcm⟩ := Rd.owned hown
      have HRD := hid hrd
      clear hown hrd hB hc hcm
      go_wp2
      go_returns
      have e : l.take k = l := List.take_of_length_le (by rw [HN.out]; exact Nat.le_refl _)
      rw [e] at HRD ⊢
      exact ⟨B, c, rfl, HRD.out, X⟩
end Go.Proofs.Ytikdmnedbfpkeaa
