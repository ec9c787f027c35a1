/- Vary: ReadAll and the document's lists: walks. -/
import Derived.Test.YthcmmmccbpfflaaVal
import Derived.Test.YthcmmmccbpfflaaVvo
import Derived.Test.YthcmmmccbpfflaaVsn
namespace Go.Proofs.Ythcmmmccbpfflaa
open Go.RowKit Hy
set_option maxHeartbeats 400000 in
theorem listBytes_any (l : List Nat) (A : Option Addr) (n cap : Nat) (w : World) (hn : l.length = n) (hr : Rd w A (u64s l)) (hl : ∀ x ∈ l, x < 18446744073709551616) (hnl : n ≤ 17592186044416) :
    Calls Try.prog 24 #[.slice A n cap] w fun e w' => e = .returned (.string ⟨(Vary.all l).toArray⟩) ∧ Ext w w' := by
  have HN := hid hn
  have HA := hid hr
  have HB := hid hl
  clear hr hl hn
  go_enter Try.func24, Try.ntmps24
  go_wp2
  go_loopw [3, 4] (fun v c wr => ∃ k : Nat, k ≤ n ∧ c = .int .i64 k ∧ v = .string ⟨(Vary.all (l.take k)).toArray⟩ ∧ Ext w wr) (fun _ c _ => n - (intOf c).toNat)
  case atStart => exact ⟨0, Nat.zero_le _, rfl, by simp [Vary.all_nil], ext_refl _⟩
  case round =>
    obtain ⟨k, hk, rfl, rfl, X⟩ := hrel
    by_cases hlt : k < n
    · have hka : k < l.length := by rw [HN.out]; exact hlt
      obtain ⟨b1, o1, e1, l1, c1⟩ := HA.out.nums k hka
      subst e1
      have d1 := (X.cell (p := ⟨b1, o1 + k, none⟩) l1).trans (c1 k hka)
      have HS := hid (show Vary.all (l.take (k + 1)) = Vary.all (l.take k) ++ Vary.wr l[k] by rw [List.take_succ_eq_append_getElem hka, Vary.all_snoc])
      have hx := HB.out l[k] (List.getElem_mem hka)
      have hq : (Vary.all (l.take k)).length ≤ 9 * k := by have := Vary.all_len (l.take k); rw [List.length_take] at this; omega
      have hw9 : (Vary.wr l[k]).length ≤ 9 := by rw [Vary.wr_len]; have := Vary.beh_le8 l[k]; omega
      obtain ⟨S, hS⟩ : ∃ S : ByteArray, S = ⟨(Vary.wr l[k]).toArray⟩ := ⟨_, rfl⟩
      obtain ⟨T, hT⟩ : ∃ T : ByteArray, T = ⟨(Vary.all (l.take k)).toArray⟩ := ⟨_, rfl⟩
      have hs1 : S.size ≤ 9 := by rw [hS, str_size]; exact hw9
      have hs2 : T.size ≤ 9 * k := by rw [hT, str_size]; exact hq
      have CW : ∀ wx : World, Hid (Calls Try.prog 20 #[.int .u64 (l[k] : Nat)] wx fun e w' => e = .returned (.string S) ∧ Ext wx w') := fun wx => by rw [hS]; exact hid (varyBytes_any l[k] wx hx)
      have HTS := hid (show T ++ S = ⟨(Vary.all (l.take (k + 1))).toArray⟩ by rw [HS.out, ← str_app, hS, hT])
      rw [← hT]
      clear c1 hx hS hT hq hw9 HS
      generalize l[k] = x at *
      clear hka
      go_wp2_with (go_at_call 20; refine (CW _).out.mono ?_; rintro e w2 ⟨rfl, b2⟩)
      go_roundw
      case rel => exact ⟨k + 1, by omega, by go_num, by rw [← HTS.out], X.then b2⟩
      case measure => simp [intOf]; omega
    · obtain rfl : k = n := by omega
      have HE := hid (show l.take k = l from List.take_of_length_le (by rw [HN.out]; exact Nat.le_refl _))
      go_wp2
      go_returns
      exact ⟨by rw [HE.out]; rfl, X⟩
set_option maxHeartbeats 800000 in
theorem listOf_any (s0 : ByteArray) (w : World) (hs : s0.size ≤ 281474976710656) (hcnt : (Vary.many s0.data.toList).1.length ≤ 17592186044416) :
    Calls Try.prog 22 #[.string s0] w (NumsOut (Vary.rl s0.data.toList) (Vary.many s0.data.toList).2 w) := by
  have HM := hid (Eq.refl (Vary.many s0.data.toList))
  have HR1 := hid (Vary.rl_ok s0.data.toList)
  have HR2 := hid (Vary.rl_bad s0.data.toList)
  have HCN := hid hcnt
  clear hcnt
  generalize Vary.rl s0.data.toList = L at *
  obtain ⟨M, hM⟩ : ∃ M, M = Vary.many s0.data.toList := ⟨_, rfl⟩
  rw [← hM] at HR1 HR2 HCN ⊢
  have HMM := hid hM
  clear hM HM
  go_enter Try.func22, Try.ntmps22
  go_wp2
  go_loopw [0, 4, 5, 6, 7] (fun sv v _ _ _ wr => ∃ (s : ByteArray) (acc : List Nat), sv = .string s ∧ s.size ≤ 281474976710656 ∧ Hid (M = (acc ++ (Vary.many s.data.toList).1, (Vary.many s.data.toList).2)) ∧ wr.ownsRow w.heap.size 22 1 v acc.length (u64s acc) ∧ Ext w wr)
    (fun sv _ _ _ _ _ => match sv with | .string s => s.size | _ => 0)
  case atStart => exact ⟨s0, [], rfl, hs, hid (by rw [HMM.out]; rfl), World.ownsRow_nil _ _ _ _, ext_refl _⟩
  case round =>
    obtain ⟨s, acc, rfl, hz, HI, hown, X⟩ := hrel
    have HO := hid hown
    clear hown hs
    by_cases h0 : s.data.toList = []
    · have h1 : s.size = 0 := by have := congrArg List.length h0; rw [Array.length_toList] at this; exact this
      have e1 := HI.out
      rw [h0, Vary.many_nil] at e1
      simp only [List.append_nil] at e1
      have HE := hid e1
      clear h0 e1 HI
      go_wp2
      obtain ⟨A, cap, rfl, hrd, hA, _⟩ := Rd.owned HO.out
      go_returns
      refine ⟨A, cap, ?_, ?_, X⟩
      · rw [HR1.out (by rw [HE.out]), HE.out]; rfl
      · rw [HR1.out (by rw [HE.out]), HE.out]; exact hrd
    · have h1 : 0 < s.size := by
        have := List.length_pos_iff.2 h0; rw [Array.length_toList] at this; exact this
      obtain ⟨n, k, e, hrd⟩ : ∃ n k e, Vary.rd s.data.toList = (n, k, e) := ⟨_, _, _, rfl⟩
      have HC := fun wx : World => hid (varyOf_any s wx hz)
      simp only [hrd] at HC
      by_cases he : e = 0
      · subst he
        obtain ⟨k1, k2, k3, k4, _⟩ := Vary.rd_ok (s := s.data.toList) (by rw [hrd])
        have hm := Vary.many_ok s.data.toList h0 (by rw [hrd])
        rw [hrd] at k1 k2 k3 k4 hm
        simp only at k1 k2 k3 k4 hm
        rw [Array.length_toList] at k2
        have k2' : k ≤ s.size := k2
        have hT := fun wx : World => run_from (P := Try.prog) (w := wx) Try.underlying9 s .i64 k k2'
        obtain ⟨s2, hs2⟩ : ∃ s2 : ByteArray, s2 = ⟨(s.data.toList.drop k).toArray⟩ := ⟨_, rfl⟩
        rw [← hs2] at hT
        have e2 := HI.out
        rw [hm] at e2
        have e3 : s2.data.toList = s.data.toList.drop k := by rw [hs2]
        rw [← e3] at e2
        have hz2 : s2.size + k = s.size := by rw [hs2, str_size, List.length_drop, Array.length_toList]; exact Nat.sub_add_cancel k2'
        have HE := hid e2
        have hacc : acc.length + 1 ≤ 17592186044416 := by
          have := HCN.out
          rw [HE.out] at this
          simp only [List.length_append, List.length_cons] at this
          omega
        have hnI : (n : Int) ≤ 18446744073709551615 := by omega
        clear hrd h0 hm e2 e3 hs2 HI k2 k4
        go_wp2_with (first
          | (go_at_call 17; refine (HC _).out.mono ?_; rintro e w2 ⟨rfl, b2⟩)
          | (at_builtin; refine wpList_app rfl (.tmp 20) (.tmp 22) rowU64 rfl _ acc.length _ rfl ((own_ext HO.out b2).alloc _) _ 1 (u64s [n]) rfl (Src.rd Try.underlying32 _ 1 1 _ rfl (rd_lit rfl rfl) (u64s_one _) (fun h => by cases h)) (by unfold maxLen; omega) (by omega) (by have := b2.size; have := X.size; simp; omega) ?_; intro v' w3 hown hgrow hat hbel))
        go_roundw
        case rel => exact ⟨s2, acc ++ [n], rfl, by omega, hid (by rw [HE.out]; simp), by rw [u64s_app, List.length_append]; exact hown, ((X.then b2).new _).trans hbel⟩
        case measure => simp; omega
      · have hm := Vary.many_bad s.data.toList h0 (by rw [hrd]; exact he)
        rw [hrd] at hm
        simp only at hm
        have e2 := HI.out
        rw [hm] at e2
        simp only [List.append_nil] at e2
        have HE := hid e2
        have h3 : ((e : Int) != 0) = true := by rw [bne_iff_ne]; omega
        have h4 : ((e : Int) == 0) = false := by rw [beq_eq_false_iff_ne]; omega
        have HEE := hid he
        clear hrd h0 hm e2 HI he
        go_wp2_with (go_at_call 17; refine (HC _).out.mono ?_; rintro e w2 ⟨rfl, b2⟩)
        go_returns
        refine ⟨none, 0, ?_, fun h => ?_, X.then b2⟩
        · rw [HR2.out (by rw [HE.out]; exact HEE.out), HE.out]; rfl
        · rw [HR2.out (by rw [HE.out]; exact HEE.out)] at h; simp [u64s] at h
end Go.Proofs.Ythcmmmccbpfflaa
