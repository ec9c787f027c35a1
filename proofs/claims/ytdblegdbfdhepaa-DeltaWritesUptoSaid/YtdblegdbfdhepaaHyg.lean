/- Hybrid: Read: walk. -/
import Derived.Test.YtdblegdbfdhepaaHyf
namespace Go.Proofs.Ytdblegdbfdhepaa
open Go.RowKit Hy
/-- how many numbers a reader has -/
def outLen (g : Nat) (w : World) : Nat :=
  match w.cell? ⟨g, 3, none⟩ with
  | some (.slice _ n _) => n
  | _ => 0
theorem HyRd.outLen {g : Nat} {w : World} {s : List UInt8} {wd want : Nat} {o : List Nat} {v : Value} (h : HyRd g w s wd want o v) : outLen g w = o.length := by
  have := h.1.cell 3
  obtain ⟨A, c, rfl, _⟩ := Rd.owned h.2
  unfold Go.Proofs.Ytdblegdbfdhepaa.outLen
  rw [this]; rfl
set_option maxRecDepth 100000 in
set_option maxHeartbeats 1600000 in
theorem hyRead_any (s0 : ByteArray) (many wd : Int) (w : World) :
    Calls Try.prog 24 #[.string s0, .int .i64 many, .int .i64 wd] w (NumsOut (Hyb.rdl s0.data.toList many wd).1 (Hyb.rdl s0.data.toList many wd).2 w) := by
  by_cases h0 : wd < 0
  · rw [Hyb.rdl_range (.inl (.inl h0))]
    go_enter Try.func24, Try.ntmps24
    go_wp2
    go_returns
    exact ⟨none, 0, rfl, fun h => by simp [u64s] at h, ext_refl _⟩
  · by_cases h1 : 64 < wd
    · rw [Hyb.rdl_range (.inl (.inr h1))]
      go_enter Try.func24, Try.ntmps24
      go_wp2
      go_returns
      exact ⟨none, 0, rfl, fun h => by simp [u64s] at h, ext_refl _⟩
    · by_cases h2 : many < 0
      · rw [Hyb.rdl_range (.inr h2)]
        go_enter Try.func24, Try.ntmps24
        go_wp2
        go_returns
        exact ⟨none, 0, rfl, fun h => by simp [u64s] at h, ext_refl _⟩
      · by_cases h3 : 64 < many
        · rw [Hyb.rdl_many (by omega) h3]
          go_enter Try.func24, Try.ntmps24
          go_wp2
          go_returns
          exact ⟨none, 0, rfl, fun h => by simp [u64s] at h, ext_refl _⟩
        · obtain ⟨mm, rfl⟩ := Int.eq_ofNat_of_zero_le (show 0 ≤ many by omega)
          obtain ⟨wn, rfl⟩ := Int.eq_ofNat_of_zero_le (show 0 ≤ wd by omega)
          have hm : mm ≤ 64 := by omega
          have hwn : wn ≤ 64 := by omega
          have hmI : (mm : Int) ≤ 64 := by omega
          have hwI : (wn : Int) ≤ 64 := by omega
          rw [Hyb.rdl_in hwn hm]
          obtain ⟨M, hM⟩ : ∃ M, M = Hyb.rdF wn mm mm s0.data.toList [] := ⟨_, rfl⟩
          rw [← hM]
          have HM := hid hM
          have HMM := hid hm
          have HWN := hid hwn
          clear hM h0 h1 h2 h3 hm hwn
          go_enter Try.func24, Try.ntmps24
          go_wp2
          go_loopw [9] (fun _ wr => ∃ (s : List UInt8) (o : List Nat) (v : Value) (f : Nat), HyRd w.heap.size wr s wn mm o v ∧ Hid (o.length ≤ mm) ∧ Hid (mm ≤ o.length + f) ∧ Hid (M = Hyb.rdF wn mm f s o) ∧ Hid (Ext w wr)) (fun _ wr => mm - outLen w.heap.size wr)
          case atStart => exact ⟨s0.data.toList, [], .slice none 0 0, mm, ⟨Blk.new _ _ _, World.ownsRow_nil _ _ _ _⟩, hid (Nat.zero_le _), hid (by simp), HM, hid ((ext_refl _).new _)⟩
          case round =>
            obtain ⟨s, o, v, f, hst, HOL, HF, HI, HX⟩ := hrel
            have HST := hid hst
            have hd3 := hst.1.cell 3
            obtain ⟨A2, c2, rfl, hrd, _⟩ := Rd.owned hst.2
            have HRD := hid hrd
            clear hrd
            by_cases hlt : o.length < mm
            · have hltI : (o.length : Int) < (mm : Int) := by omega
              have HC := hid (hyPart_any s wn mm o _ w.heap.size wr hst hlt HMM.out HWN.out)
              obtain ⟨fn, hf⟩ : ∃ fn, f = fn + 1 := ⟨f - 1, by have := HF.out; omega⟩
              obtain ⟨er, l, k, hs⟩ : ∃ er l k, Hyb.stp wn (mm - o.length) s = (er, l, k) := ⟨_, _, _, rfl⟩
              by_cases he : er = 0
              · subst he
                have hl := Hyb.stp_len (w := wn) (left := mm - o.length) (s := s) (by rw [hs]) (by omega)
                rw [hs] at hl
                have e2 := HI.out
                rw [hf, Hyb.rdF_ok wn mm fn s o l k hlt hs] at e2
                have HE := hid e2
                have HL := hid (show o.length + 1 ≤ (o ++ l).length ∧ (o ++ l).length ≤ mm by rw [List.length_append]; simp only at hl; omega)
                have HF2 := hid (show mm ≤ (o ++ l).length + fn by have := HF.out; have := HL.out; omega)
                have HOO := hid (hst.outLen)
                unfold HyPart at HC
                rw [hs] at HC
                simp only at HC
                clear hs hl e2 hf hst HI hlt
                go_wp2_with fail
                refine Calls.mono HC.out ?_
                rintro e w2 ⟨rfl, hb, hgd⟩
                obtain ⟨v2, hst2⟩ := hgd (by trivial)
                have HB := hid hb
                clear hb hgd
                go_wp2
                go_roundw
                case rel => exact ⟨s.drop k, o ++ l, v2, fn, hst2, hid HL.out.2, HF2, HE, hid (Below.trans HX.out HB.out)⟩
                case measure =>
                  have h5 := hst2.outLen
                  have h6 := HOO.out
                  have h7 := HL.out
                  rw [h5, h6]; omega
              · have e2 := HI.out
                rw [hf, Hyb.rdF_bad wn mm fn s o hlt (by rw [hs]; exact he), hs] at e2
                have HE := hid e2
                unfold HyPart at HC
                rw [hs] at HC
                simp only at HC
                have h3 : ((er : Int) != 0) = true := by rw [bne_iff_ne]; omega
                have h4 : ((er : Int) == 0) = false := by rw [beq_eq_false_iff_ne]; omega
                clear hs e2 hf hst HI hlt he
                go_wp2_with fail
                refine Calls.mono HC.out ?_
                rintro e w2 ⟨rfl, hb, _⟩
                go_wp2
                go_returns
                exact ⟨none, 0, by rw [HE.out]; rfl, fun h => by rw [HE.out] at h; simp [u64s] at h, Below.trans HX.out hb⟩
            · have hge : (mm : Int) ≤ (o.length : Int) := by omega
              have e2 := HI.out
              rw [Hyb.rdF_end wn mm f s o (by omega)] at e2
              have hc0 := hst.1.cell 0
              by_cases hs0 : s = []
              · subst hs0
                rw [if_pos rfl] at e2
                have HE := hid e2
                clear e2 HI hst hlt
                go_wp2
                go_returns
                exact ⟨A2, c2, by rw [HE.out]; rfl, by rw [HE.out]; exact HRD.out, HX.out⟩
              · rw [if_neg hs0] at e2
                have HE := hid e2
                obtain ⟨XX, hXX⟩ : ∃ XX : ByteArray, XX = ⟨s.toArray⟩ := ⟨_, rfl⟩
                have e1 : XX.toList.isEmpty = false := by
                  rw [hXX, ByteArray.toList_mk]; simpa using hs0
                rw [← hXX] at hc0
                clear e2 HI hst hlt hs0 hXX
                go_wp2
                go_returns
                exact ⟨none, 0, by rw [HE.out]; rfl, fun h => by rw [HE.out] at h; simp [u64s] at h, HX.out⟩
end Go.Proofs.Ytdblegdbfdhepaa
