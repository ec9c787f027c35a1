/- Vary: Each with ReadAll's closure, ReadAll: walks. -/
import Derived.Test.YthcmmmccbpfflaaVal
namespace Hy
open Go Go.RowKit
/-- the captured list of numbers: block g holds it, what it owns lies behind g -/
def CapNums (g : Nat) (ts te : TypeId) (acc : List Nat) (w : World) : Prop := ∃ v, Blk w g ts #[v] ∧ w.ownsRow (g + 1) te 1 v acc.length (u64s acc)
end Hy
namespace Go.Proofs.Ythcmmmccbpfflaa
open Go.RowKit Hy
set_option maxHeartbeats 400000 in
theorem readAll1_any (n g : Nat) (acc : List Nat) (w : World) (hI : CapNums g 32 22 acc w) (hacc : acc.length + 1 ≤ 17592186044416) :
    Calls Try.prog 41 #[.int .u64 n, .pointer (some ⟨g, 0, none⟩)] w fun e w' => e = .returned (.bool true) ∧ CapNums g 32 22 (acc ++ [n]) w' ∧ Below g w w' := by
  obtain ⟨v, B, hown⟩ := hI
  have hc := B.cell 0
  have hlt := B.lt
  have HO := hid hown
  have HB := hid B
  clear hown B
  go_enter Try.func41, Try.ntmps41
  go_wp2_with (at_builtin; refine wpList_app rfl (.tmp 4) (.tmp 6) rowU64 rfl _ acc.length _ rfl (HO.out.alloc _) _ 1 (u64s [n]) rfl (Src.rd Try.underlying32 _ 1 1 _ rfl (rd_lit rfl rfl) (u64s_one _) (fun h => by cases h)) (by unfold maxLen; omega) (by omega) (by simp; omega) ?_; intro v' w3 hown hgrow hat hbel; obtain ⟨A, cap, rfl, _⟩ := Rd.owned hown; have hB3 := hid ((HB.out.alloc _).below hbel (Nat.lt_succ_self g)); have hc3 := hB3.out.cell 0; have hf3 := hB3.out.frozen 0)
  go_returns
  refine ⟨rfl, ⟨_, (hB3.out.set 0 _).cast rfl, ?_⟩, ?_⟩
  · rw [u64s_app, List.length_append]
    exact ownsRow_setCell_below hown (Nat.lt_succ_self g) _
  · exact (((Below.refl g w).alloc (Nat.le_of_lt hlt) _).trans (hbel.mono (Nat.le_succ g))).setCell (Nat.le_refl _) _
theorem CapNums.ext {g : Nat} {ts te : TypeId} {acc : List Nat} {w w' : World} (h : CapNums g ts te acc w) (hx : Ext w w') : CapNums g ts te acc w' := by
  obtain ⟨v, B, hown⟩ := h
  exact ⟨v, B.keep hx, own_ext hown hx⟩
theorem CapNums.lt {g : Nat} {ts te : TypeId} {acc : List Nat} {w : World} (h : CapNums g ts te acc w) : g < w.heap.size := by
  obtain ⟨v, B, hown⟩ := h
  exact B.lt
set_option maxHeartbeats 800000 in
theorem eachNums_any (s0 : ByteArray) (g : Nat) (w : World) (hs : s0.size ≤ 281474976710656) (hI : CapNums g 32 22 [] w) (hcnt : (Vary.many s0.data.toList).1.length ≤ 17592186044416) :
    Calls Try.prog 40 #[.string s0, .func (.func 41) #[] #[.pointer (some ⟨g, 0, none⟩)]] w fun e w' => e = .returned (.int .i64 ((Vary.many s0.data.toList).2 : Nat)) ∧ CapNums g 32 22 (Vary.many s0.data.toList).1 w' ∧ Below g w w' := by
  have HCN := hid hcnt
  have HIN := hid hI
  clear hcnt hI
  obtain ⟨M, hM⟩ : ∃ M, M = Vary.many s0.data.toList := ⟨_, rfl⟩
  rw [← hM] at HCN ⊢
  have HMM := hid hM
  clear hM
  go_enter Try.func40, Try.ntmps40
  go_wp2
  go_loopw [0, 5, 6, 7] (fun sv _ _ _ wr => ∃ (s : ByteArray) (acc : List Nat), sv = .string s ∧ s.size ≤ 281474976710656 ∧ Hid (M = (acc ++ (Vary.many s.data.toList).1, (Vary.many s.data.toList).2)) ∧ CapNums g 32 22 acc wr ∧ Below g w wr)
    (fun sv _ _ _ _ => match sv with | .string s => s.size | _ => 0)
  case atStart => exact ⟨s0, [], rfl, hs, hid (by rw [HMM.out]; rfl), HIN.out, Below.refl _ _⟩
  case round =>
    obtain ⟨s, acc, rfl, hz, HI, hC, X⟩ := hrel
    have HO := hid hC
    clear hC hs
    by_cases h0 : s.data.toList = []
    · have h1 : (s.toList == []) = true := by rw [ByteArray.toList_eq, h0]; rfl
      have h2 : s.toList.isEmpty = true := by rw [ByteArray.toList_eq, h0]; rfl
      have e1 := HI.out
      rw [h0, Vary.many_nil] at e1
      simp only [List.append_nil] at e1
      have HE := hid e1
      clear h0 e1 HI
      go_wp2
      go_returns
      rw [HE.out]
      exact ⟨rfl, HO.out, X⟩
    · have h1 : (s.toList == []) = false := by rw [ByteArray.toList_eq, beq_eq_false_iff_ne]; exact h0
      have h2 : s.toList.isEmpty = false := by rw [ByteArray.toList_eq, List.isEmpty_eq_false_iff]; exact h0
      have h10 : 0 < s.size := by
        have := List.length_pos_iff.2 h0; rw [Array.length_toList] at this; exact this
      obtain ⟨n, k, e, hrd⟩ : ∃ n k e, Vary.rd s.data.toList = (n, k, e) := ⟨_, _, _, rfl⟩
      have HC := fun wx : World => hid (read_any s wx)
      simp only [hrd] at HC
      by_cases he : e = 0
      · subst he
        obtain ⟨k1, k2, k3, k4, _⟩ := Vary.rd_ok (s := s.data.toList) (by rw [hrd])
        have hm := Vary.many_ok s.data.toList h0 (by rw [hrd])
        rw [hrd] at k1 k2 k3 k4 hm
        simp only at k1 k2 k3 k4 hm
        rw [Array.length_toList] at k2
        have k2' : k ≤ s.size := k2
        have hT := fun wx : World => run_from (P := Try.prog) (w := wx) Try.underlying9 s .i64 k k2'
        obtain ⟨s2, hs2⟩ : ∃ s2 : ByteArray, s2 = ⟨(s.data.toList.drop k).toArray⟩ := ⟨_, rfl⟩
        rw [← hs2] at hT
        have e2 := HI.out
        rw [hm] at e2
        have e3 : s2.data.toList = s.data.toList.drop k := by rw [hs2]
        rw [← e3] at e2
        have hz2 : s2.size + k = s.size := by rw [hs2, str_size, List.length_drop, Array.length_toList]; exact Nat.sub_add_cancel k2'
        have HE := hid e2
        have hacc : acc.length + 1 ≤ 17592186044416 := by
          have := HCN.out
          rw [HE.out] at this
          simp only [List.length_append, List.length_cons] at this
          omega
        have hnI : (n : Int) ≤ 18446744073709551615 := by omega
        clear hrd h0 hm e2 e3 hs2 HI k2 k4
        go_wp2_with (first
          | (go_at_call 16; refine (HC _).out.mono ?_; rintro e w2 ⟨rfl, b2⟩)
          | (go_at_call 41; refine (readAll1_any n g acc _ (CapNums.ext HO.out b2) hacc).mono ?_; rintro e w3 ⟨rfl, hC3, b3⟩; have HC3 := hid hC3; clear hC3))
        go_roundw
        case rel => exact ⟨s2, acc ++ [n], rfl, by omega, hid (by rw [HE.out]; simp), HC3.out, (X.trans (b2.mono (Nat.le_of_lt (CapNums.lt HO.out)))).trans b3⟩
        case measure => simp; omega
      · have hm := Vary.many_bad s.data.toList h0 (by rw [hrd]; exact he)
        rw [hrd] at hm
        simp only at hm
        have e2 := HI.out
        rw [hm] at e2
        simp only [List.append_nil] at e2
        have HE := hid e2
        have h3 : ((e : Int) != 0) = true := by rw [bne_iff_ne]; omega
        have h4 : ((e : Int) == 0) = false := by rw [beq_eq_false_iff_ne]; omega
        clear hrd h0 hm e2 HI he
        go_wp2_with (go_at_call 16; refine (HC _).out.mono ?_; rintro e w2 ⟨rfl, b2⟩)
        go_returns
        rw [HE.out]
        exact ⟨rfl, CapNums.ext HO.out b2, X.trans (b2.mono (Nat.le_of_lt (CapNums.lt HO.out)))⟩
set_option maxHeartbeats 400000 in
theorem readAll_any (s0 : ByteArray) (w : World) (hs : s0.size ≤ 281474976710656) (hcnt : (Vary.many s0.data.toList).1.length ≤ 17592186044416) :
    Calls Try.prog 21 #[.string s0] w (NumsOut (Vary.rl s0.data.toList) (Vary.many s0.data.toList).2 w) := by
  have HR1 := hid (Vary.rl_ok s0.data.toList)
  have HR2 := hid (Vary.rl_bad s0.data.toList)
  have hC0 : CapNums w.heap.size 32 22 [] (w.alloc (.cells #[.slice none 0 0] 32)) := ⟨_, Blk.new _ _ _, World.ownsRow_nil _ _ _ _⟩
  have HC := hid (eachNums_any s0 w.heap.size _ hs hC0 hcnt)
  clear hC0
  obtain ⟨l, e, hM⟩ : ∃ l e, Vary.many s0.data.toList = (l, e) := ⟨_, _, rfl⟩
  rw [hM] at HR1 HR2 HC ⊢
  simp only at HR1 HR2 HC ⊢
  generalize Vary.rl s0.data.toList = L at *
  clear hM
  go_enter Try.func21, Try.ntmps21
  go_wp2_with fail
  refine HC.out.mono ?_
  rintro e' w2 ⟨rfl, ⟨v, B, hown⟩, hb⟩
  obtain ⟨A, cap, rfl, hrd, hA, _⟩ := Rd.owned hown
  have hc := B.cell 0
  have HRD := hid hrd
  have X := ((ext_refl w).new (.cells #[.slice none 0 0] 32)).trans hb
  clear hown hrd hb HC B
  by_cases he : e = 0
  · subst he
    go_wp2
    go_returns
    exact ⟨A, cap, by rw [HR1.out (by trivial)]; rfl, by rw [HR1.out (by trivial)]; exact HRD.out, X⟩
  · have h3 : ((e : Int) != 0) = true := by rw [bne_iff_ne]; omega
    have h4 : ((e : Int) == 0) = false := by rw [beq_eq_false_iff_ne]; omega
    have HEE := hid he
    clear he
    go_wp2
    go_returns
    exact ⟨none, 0, by rw [HR2.out HEE.out]; rfl, fun h => by rw [HR2.out HEE.out] at h; simp [u64s] at h, X⟩
end Go.Proofs.Ythcmmmccbpfflaa
