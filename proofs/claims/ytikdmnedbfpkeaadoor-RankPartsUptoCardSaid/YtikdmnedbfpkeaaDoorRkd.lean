/- Of: marks from bytes: walk. -/
import Derived.Test.YtikdmnedbfpkeaaDoorRkb
namespace Go.Proofs.YtikdmnedbfpkeaaDoor
open Go.RowKit Hy
set_option maxHeartbeats 1600000 in
theorem of_any (s : ByteArray) (many : Int) (w : World) :
    Calls Tryd.prog 17 #[.string s, .int .i64 many] w fun e w' => ∃ B c, e = .returned (.tuple #[.slice B (Bits.up s.data.toList many 1).length c, .int .i64 (Bits.chk s.data.toList many 1)]) ∧ Rd w' B (bls (Mrk.marks (Bits.up s.data.toList many 1))) ∧ Ext w w' := by
  have HU := hid (unpack_any s many 1 w)
  have HZ := hid (fun h : Bits.chk s.data.toList many 1 ≠ 0 => Bits.up_bad s.data.toList many 1 h)
  have hc5 := Bits.chk_cases s.data.toList many 1
  have HM := hid (show (Bits.up s.data.toList many 1).length ≤ 64 from by
    by_cases h : Bits.chk s.data.toList many 1 = 0
    · rw [Bits.up_ok _ _ _ h, Bits.unp_len]; have := Bits.chk_ok h; omega
    · rw [Bits.up_bad _ _ _ h]; decide)
  generalize Bits.chk s.data.toList many 1 = er at *
  generalize Bits.up s.data.toList many 1 = L at *
  by_cases h0 : er = 0
  · subst h0
    clear hc5
    obtain ⟨n, hn⟩ : ∃ n, n = L.length := ⟨_, rfl⟩
    have HN := hid hn.symm
    have hnI : (n : Int) ≤ 64 := by have := HM.out; omega
    rw [← hn]
    go_enter Tryd.func17, Tryd.ntmps17
    go_wp2_with fail
    refine Calls.mono HU.out ?_
    rintro e w1 ⟨A, cap, rfl, hr, hx⟩
    rw [← hn]
    have HA := hid hr
    have HX := hid hx
    clear hr hx hn
    go_wp2
    go_loopw [8, 10, 22] (fun x _ c wr => ∃ k : Nat, k ≤ n ∧ c = .int .i64 k ∧ wr.ownsRow w1.heap.size 4 1 x k (bls (Mrk.marks (L.take k))) ∧ Ext w1 wr) (fun _ _ c _ => n - (intOf c).toNat)
    case atStart => exact ⟨0, Nat.zero_le _, rfl, World.ownsRow_nil _ _ _ _, ext_refl _⟩
    case round =>
      obtain ⟨k, hk, rfl, hown, X⟩ := hrel
      by_cases hlt : k < n
      · have hka : k < L.length := by rw [HN.out]; exact hlt
        obtain ⟨b1, o1, e1, l1, c1⟩ := HA.out.u64 (by omega)
        subst e1
        have d0 := (X.cell (p := ⟨b1, o1 + k, none⟩) l1).trans (c1 k hka)
        have HE := hid (Mrk.marks_take L k hka)
        have HO := hid hown
        generalize L[k] = c at *
        generalize Mrk.marks (L.take k) = D at *
        obtain ⟨q, hq⟩ : ∃ q, q = decide (c = 1) := ⟨_, rfl⟩
        have e2 : ((c : Int) == 1) = q := by rw [hq, Bool.eq_iff_iff]; simp; omega
        rw [← hq] at HE
        clear c1 hka hown hq
        go_wp2_with (at_builtin; go_loud (refine wpList_app rfl (.tmp 26) (.tmp 29) rowBl rfl _ k (bls D) rfl (own_ext HO.out (Ext.new (ext_refl _) _)) _ 1 (bls [q]) rfl (Src.rd Tryd.underlying22 _ 1 1 _ rfl (rd_lit rfl rfl) (bls_one _) (fun h => by cases h)) (by simp only [maxLen]; omega) (by omega) (by have := X.size; simp; omega) ?_; intro v' w5 hown5 hgrow hat hbel))
        go_roundw
        case rel => exact ⟨k + 1, by omega, by go_num, by rw [HE.out, bls_app]; exact hown5, (Ext.new X _).trans hbel⟩
        case measure => simp [intOf]; omega
      · obtain rfl : k = n := by omega
        obtain ⟨B, c, rfl, hrd, hB, hc, hcm⟩ := Rd.owned hown
        have e : L.take k = L := List.take_of_length_le (by rw [HN.out]; exact Nat.le_refl _)
        rw [e] at hrd
        have HRD := hid hrd
        clear hown hrd hB hc hcm e
        go_wp2
        go_returns
        exact ⟨B, c, rfl, HRD.out, HX.out.then X⟩
  · have HZ' := hid (HZ.out h0)
    have h3 : ((er : Int) != 0) = true := by rw [bne_iff_ne]; omega
    clear h0 hc5 HM HZ
    go_enter Tryd.func17, Tryd.ntmps17
    go_wp2_with fail
    refine Calls.mono HU.out ?_
    rintro e w1 ⟨A, cap, rfl, hr, hx⟩
    have HX := hid hx
    clear hr hx
    go_wp2
    go_returns
    exact ⟨none, 0, by rw [HZ'.out]; rfl, fun h => by rw [HZ'.out] at h; simp [bls, Mrk.marks] at h, HX.out⟩
end Go.Proofs.YtikdmnedbfpkeaaDoor
