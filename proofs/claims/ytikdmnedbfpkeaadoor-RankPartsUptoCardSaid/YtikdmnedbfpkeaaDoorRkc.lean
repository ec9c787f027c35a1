/- Bytes: marks as bytes: walk. -/
import Derived.Test.YtikdmnedbfpkeaaDoorRkb
namespace Go.Proofs.YtikdmnedbfpkeaaDoor
open Go.RowKit Hy
set_option maxHeartbeats 1600000 in
theorem bytes_any (l : List Bool) (A : Option Addr) (n cap : Nat) (w : World) (hn : l.length = n) (hr : Rd w A (bls l)) (hnl : n ≤ 17592186044416) :
    Calls Tryd.prog 16 #[.slice A n cap] w fun e w' => e = .returned (.tuple #[.string ⟨(Bits.pk (Mrk.ones l) 1).1.toArray⟩, .int .i64 (Bits.pk (Mrk.ones l) 1).2]) ∧ Ext w w' := by
  have HN := hid hn
  have HA := hid hr
  have HL := hid hnl
  have hnI : (n : Int) ≤ 17592186044416 := by omega
  have HPK := hid (fun (B : Option Addr) (c : Nat) (wr : World) (hrd : Rd wr B (u64s (Mrk.ones l))) => pack_any (Mrk.ones l) B n c 1 wr (by rw [Mrk.ones_len, hn]) hrd (Mrk.ones_lt l) (by omega))
  obtain ⟨P, hP⟩ : ∃ P, P = Bits.pk (Mrk.ones l) 1 := ⟨_, rfl⟩
  rw [← hP] at HPK ⊢
  clear hn hr hnl hP
  go_enter Tryd.func16, Tryd.ntmps16
  go_wp2
  go_loopw [4, 6, 7, 10] (fun x _ _ c wr => ∃ k : Nat, k ≤ n ∧ c = .int .i64 k ∧ wr.ownsRow w.heap.size 49 1 x k (u64s (Mrk.ones (l.take k))) ∧ Ext w wr) (fun _ _ _ c _ => n - (intOf c).toNat)
  case atStart => exact ⟨0, Nat.zero_le _, rfl, World.ownsRow_nil _ _ _ _, ext_refl _⟩
  case round =>
    obtain ⟨k, hk, rfl, hown, X⟩ := hrel
    by_cases hlt : k < n
    · have hka : k < l.length := by rw [HN.out]; exact hlt
      obtain ⟨b1, o1, e1, l1, c1⟩ := HA.out.bool (by omega)
      subst e1
      have d0 := (X.cell (p := ⟨b1, o1 + k, none⟩) l1).trans (c1 k hka)
      have HE := hid (Mrk.ones_take l k hka)
      have HO := hid hown
      generalize l[k] = c at *
      generalize Mrk.ones (l.take k) = D at *
      clear c1 hka hown
      cases c with
      | true =>
        go_wp2_with (at_builtin; go_loud (refine wpList_app rfl (.tmp 15) (.tmp 17) rowU64 rfl _ k (u64s D) rfl (own_ext HO.out (Ext.new (ext_refl _) _)) _ 1 (u64s [1]) rfl (Src.rd Tryd.underlying41 _ 1 1 _ rfl (rd_lit rfl rfl) (u64s_one _) (fun h => by cases h)) (by have := HL.out; simp only [maxLen]; omega) (by have := HL.out; omega) (by have := X.size; simp; omega) ?_; intro v' w5 hown5 hgrow hat hbel))
        go_roundw
        case rel => exact ⟨k + 1, by omega, by go_num, by rw [HE.out, u64s_app]; exact hown5, (Ext.new X _).trans hbel⟩
        case measure => simp [intOf]; omega
      | false =>
        go_wp2_with (at_builtin; go_loud (refine wpList_app rfl (.tmp 15) (.tmp 17) rowU64 rfl _ k (u64s D) rfl (own_ext HO.out (Ext.new (ext_refl _) _)) _ 1 (u64s [0]) rfl (Src.rd Tryd.underlying41 _ 1 1 _ rfl (rd_lit rfl rfl) (u64s_one _) (fun h => by cases h)) (by have := HL.out; simp only [maxLen]; omega) (by have := HL.out; omega) (by have := X.size; simp; omega) ?_; intro v' w5 hown5 hgrow hat hbel))
        go_roundw
        case rel => exact ⟨k + 1, by omega, by go_num, by rw [HE.out, u64s_app]; exact hown5, (Ext.new X _).trans hbel⟩
        case measure => simp [intOf]; omega
    · obtain rfl : k = n := by omega
      obtain ⟨B, c, rfl, hrd, hB, hc, hcm⟩ := Rd.owned hown
      have e : l.take k = l := List.take_of_length_le (by rw [HN.out]; exact Nat.le_refl _)
      rw [e] at hrd
      have HP := hid (HPK.out B c wr hrd)
      clear hown hrd hB hc hcm e
      go_wp2_with fail
      refine Calls.mono HP.out ?_
      rintro e w1 ⟨rfl, hx⟩
      have HX := hid hx
      clear hx
      go_wp2
      go_returns
      exact ⟨rfl, X.then HX.out⟩
end Go.Proofs.YtikdmnedbfpkeaaDoor
