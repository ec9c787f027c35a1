/- Marks as numbers, and back: OnesOf, Bytes, Of: walks. -/
import Derived.Test.YtikdmnedbfpkeaaDoorMka
import Derived.Test.YtikdmnedbfpkeaaDoorBrp
import Derived.Test.YtikdmnedbfpkeaaDoorBup
namespace Hy.Mrk
def ones (l : List Bool) : List Nat := l.map fun b => if b then 1 else 0
theorem ones_len (l : List Bool) : (ones l).length = l.length := List.length_map _
theorem ones_take (l : List Bool) (k : Nat) (h : k < l.length) : ones (l.take (k + 1)) = ones (l.take k) ++ [if l[k] then 1 else 0] := by
  unfold ones; rw [List.take_succ_eq_append_getElem h, List.map_append]; rfl
theorem ones_lt (l : List Bool) : ∀ x ∈ ones l, x < 18446744073709551616 := fun x hx => by
  obtain ⟨b, _, rfl⟩ := List.mem_map.1 hx
  cases b <;> decide
def marks (l : List Nat) : List Bool := l.map fun x => decide (x = 1)
theorem marks_len (l : List Nat) : (marks l).length = l.length := List.length_map _
theorem marks_take (l : List Nat) (k : Nat) (h : k < l.length) : marks (l.take (k + 1)) = marks (l.take k) ++ [decide (l[k] = 1)] := by
  unfold marks; rw [List.take_succ_eq_append_getElem h, List.map_append]; rfl
end Hy.Mrk
namespace Go.Proofs.YtikdmnedbfpkeaaDoor
open Go.RowKit Hy
set_option maxHeartbeats 1600000 in
theorem onesOf_any (l : List Bool) (A : Option Addr) (n cap : Nat) (w : World) (hn : l.length = n) (hr : Rd w A (bls l)) (hnl : n ≤ 17592186044416) :
    Calls Tryd.prog 25 #[.slice A n cap] w fun e w' => ∃ B c, e = .returned (.slice B n c) ∧ Rd w' B (u64s (Mrk.ones l)) ∧ Ext w w' := by
  have HN := hid hn
  have HA := hid hr
  have HL := hid hnl
  have hnI : (n : Int) ≤ 17592186044416 := by omega
  clear hn hr hnl
  go_enter Tryd.func25, Tryd.ntmps25
  go_wp2
  go_loopw [3, 4] (fun x c wr => ∃ k : Nat, k ≤ n ∧ c = .int .i64 k ∧ wr.ownsRow w.heap.size 49 1 x k (u64s (Mrk.ones (l.take k))) ∧ Ext w wr) (fun _ c _ => n - (intOf c).toNat)
  case atStart => exact ⟨0, Nat.zero_le _, rfl, World.ownsRow_nil _ _ _ _, ext_refl _⟩
  case round =>
    obtain ⟨k, hk, rfl, hown, X⟩ := hrel
    by_cases hlt : k < n
    · have hka : k < l.length := by rw [HN.out]; exact hlt
      obtain ⟨b1, o1, e1, l1, c1⟩ := HA.out.bool (by omega)
      subst e1
      have d0 := (X.cell (p := ⟨b1, o1 + k, none⟩) l1).trans (c1 k hka)
      have HE := hid (Mrk.ones_take l k hka)
      have HO := hid hown
      generalize l[k] = c at *
      generalize Mrk.ones (l.take k) = D at *
      clear c1 hka hown
      cases c with
      | true =>
        go_wp2_with (at_builtin; go_loud (refine wpList_app rfl (.tmp 15) (.tmp 16) rowU64 rfl _ k (u64s D) rfl (own_ext HO.out (Ext.new (ext_refl _) _)) _ 1 (u64s [1]) rfl (Src.rd Tryd.underlying41 _ 1 1 _ rfl (rd_lit rfl rfl) (u64s_one _) (fun h => by cases h)) (by have := HL.out; simp only [maxLen]; omega) (by have := HL.out; omega) (by have := X.size; simp; omega) ?_; intro v' w5 hown5 hgrow hat hbel))
        go_roundw
        case rel => exact ⟨k + 1, by omega, by go_num, by rw [HE.out, u64s_app]; exact hown5, (Ext.new X _).trans hbel⟩
        case measure => simp [intOf]; omega
      | false =>
        go_wp2_with (at_builtin; go_loud (refine wpList_app rfl (.tmp 18) (.tmp 19) rowU64 rfl _ k (u64s D) rfl (own_ext HO.out (Ext.new (ext_refl _) _)) _ 1 (u64s [0]) rfl (Src.rd Tryd.underlying41 _ 1 1 _ rfl (rd_lit rfl rfl) (u64s_one _) (fun h => by cases h)) (by have := HL.out; simp only [maxLen]; omega) (by have := HL.out; omega) (by have := X.size; simp; omega) ?_; intro v' w5 hown5 hgrow hat hbel))
        go_roundw
        case rel => exact ⟨k + 1, by omega, by go_num, by rw [HE.out, u64s_app]; exact hown5, (Ext.new X _).trans hbel⟩
        case measure => simp [intOf]; omega
    · obtain rfl : k = n := by omega
      obtain ⟨B, c, rfl, hrd, hB, hc, hcm⟩ := Rd.owned hown
      have HRD := hid hrd
      clear hown hrd hB hc hcm
      go_wp2
      go_returns
      have e : l.take k = l := List.take_of_length_le (by rw [HN.out]; exact Nat.le_refl _)
      rw [e] at HRD
      exact ⟨B, c, rfl, HRD.out, X⟩
end Go.Proofs.YtikdmnedbfpkeaaDoor
