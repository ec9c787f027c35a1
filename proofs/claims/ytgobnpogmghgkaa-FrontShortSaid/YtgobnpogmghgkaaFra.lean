/- Front: Raw, Write: walks. -/
import Derived.Test.YtgobnpogmghgkaaRows
import Derived.Test.YtgobnpogmghgkaaFsh
import Derived.Test.YtgobnpogmghgkaaVaw
namespace Hy.Front
open Go Hy.Vary
theorem lastD_snoc {α : Type} (l : List α) (x d : α) : (l ++ [x]).getLastD d = x := by simp [List.getLastD_eq_getLast?]
theorem lastD_len (l : List Tx) (h : ∀ s ∈ l, s.length ≤ 16) : (l.getLastD []).length ≤ 16 := by
  rw [List.getLastD_eq_getLast?]
  cases e : l.getLast? with
  | none => simp
  | some x => exact h x (List.mem_of_getLast? e)
end Hy.Front
namespace Go.Proofs.Ytgobnpogmghgkaa
open Go.RowKit Hy
set_option maxHeartbeats 800000 in
theorem raw_any (l : List (List UInt8)) (A : Option Addr) (n cap : Nat) (w : World) (hn : l.length = n) (hr : Rd w A (txs l)) (hnl : n ≤ 64) (hf : Front.fitB l = true) :
    Calls Try.prog 37 #[.slice A n cap] w fun e w' => e = .returned (.string ⟨(Front.bytes l).toArray⟩) ∧ Ext w w' := by
  rw [Front.bytes_eq]
  have HN := hid hn
  have HA := hid hr
  have HF := hid ((Front.fitB_iff l).1 hf)
  clear hr hn hf
  go_enter Try.func37, Try.ntmps37
  go_wp2
  go_loopw [3, 4, 6, 7, 10] (fun v t _ _ c wr => ∃ (k : Nat) (E T : List UInt8), k ≤ n ∧ c = .int .i64 k ∧ Hid (E = Front.enc [] (l.take k)) ∧ E.length ≤ 18 * k ∧ Hid (T = (l.take k).getLastD []) ∧ T.length ≤ 16 ∧ t = .string ⟨T.toArray⟩ ∧ wr.ownsRow w.heap.size 5 1 v E.length (u8s E) ∧ Ext w wr) (fun _ _ _ _ c _ => n - (intOf c).toNat)
  case atStart => exact ⟨0, [], [], Nat.zero_le _, rfl, hid rfl, Nat.le_refl _, hid rfl, Nat.zero_le _, rfl, World.ownsRow_nil _ _ _ _, ext_refl _⟩
  case round =>
    obtain ⟨k, E, T, hk, rfl, HE, hE, HT, hT, rfl, hown, X⟩ := hrel
    have HO := hid hown
    clear hown
    by_cases hlt : k < n
    · have hka : k < l.length := by rw [HN.out]; exact hlt
      obtain ⟨b1, o1, e1, l1, c1⟩ := HA.out.texts k hka
      subst e1
      have d1 := (X.cell (p := ⟨b1, o1 + k, none⟩) l1).trans (c1 k hka)
      have hx := HF.out l[k] (List.getElem_mem hka)
      have HS := hid (show Front.enc [] (l.take (k + 1)) = E ++ Front.one T l[k] by rw [List.take_succ_eq_append_getElem hka, Front.enc_snoc, HE.out, HT.out])
      have HL := hid (show (l.take (k + 1)).getLastD [] = l[k] by rw [List.take_succ_eq_append_getElem hka, Front.lastD_snoc])
      generalize l[k] = s at *
      obtain ⟨z, hz⟩ : ∃ z, z = Front.shr T s := ⟨_, rfl⟩
      have hzl := (Front.shr_le T s).2
      have HON := hid (Front.one_len T s hx)
      have h1 : Front.one T s = Vary.wr z ++ (Vary.wr (s.length - z) ++ s.drop z) := by rw [hz]; rfl
      rw [← hz] at hzl HON
      obtain ⟨S, hS⟩ : ∃ S : ByteArray, S = ⟨s.toArray⟩ := ⟨_, rfl⟩
      obtain ⟨TT, hTT⟩ : ∃ TT : ByteArray, TT = ⟨T.toArray⟩ := ⟨_, rfl⟩
      have hSz : S.size = s.length := by rw [hS, str_size]
      have hTz : TT.size = T.length := by rw [hTT, str_size]
      have CS : ∀ wx : World, Hid (Calls Try.prog 19 #[.string TT, .string S] wx fun e w' => e = .returned (.int .i64 z) ∧ Ext wx w') := fun wx => by
        rw [hz, hS, hTT]; exact hid (shared_any ⟨T.toArray⟩ ⟨s.toArray⟩ wx (by rw [str_size]; omega))
      have CW1 := fun wx : World => hid (write_any z wx (by omega))
      have CW2 : ∀ wx : World, Hid (Calls Try.prog 48 #[.int .u64 ((S.size : Int) - (z : Int))] wx fun e w' => e = .returned (.string ⟨(Vary.wr (s.length - z)).toArray⟩) ∧ Ext wx w') := fun wx => by
        have := write_any (s.length - z) wx (by omega)
        rw [show ((s.length - z : Nat) : Int) = (S.size : Int) - (z : Int) from by omega] at this
        exact hid this
      have hR := fun wx : World => run_from (P := Try.prog) (w := wx) Try.underlying9 S .i64 z (by omega)
      have h3 : S.data.toList = s := by rw [hS]
      rw [h3] at hR
      obtain ⟨q, hq⟩ : ∃ q, q = s.drop z := ⟨_, rfl⟩
      have hql : q.length ≤ 16 := by rw [hq, List.length_drop]; omega
      rw [← hq] at hR h1
      obtain ⟨p1, hp1⟩ : ∃ p1, p1 = Vary.wr z := ⟨_, rfl⟩
      obtain ⟨p2, hp2⟩ : ∃ p2, p2 = Vary.wr (s.length - z) := ⟨_, rfl⟩
      have hp1l : p1.length ≤ 9 := by rw [hp1, Vary.wr_len]; have := Vary.beh_le8 z; omega
      have hp2l : p2.length ≤ 9 := by rw [hp2, Vary.wr_len]; have := Vary.beh_le8 (s.length - z); omega
      rw [← hp1] at CW1 h1
      rw [← hp2] at CW2 h1
      have HS2 := hid (show Front.enc [] (l.take (k + 1)) = E ++ p1 ++ p2 ++ q by rw [HS.out, h1]; simp)
      have hlen : E.length + p1.length + p2.length + q.length ≤ 18 * (k + 1) := by
        have := HON.out
        rw [h1] at this
        simp only [List.length_append] at this
        omega
      have hLS : Hid ((l.take (k + 1)).getLastD [] = s) := HL
      have hzI : (z : Int) ≤ 16 := by omega
      have hzS : (z : Int) ≤ (S.size : Int) := by omega
      have hSI : (S.size : Int) ≤ 16 := by omega
      rw [← hS] at d1
      have HSS := hid hS
      have HSx := hid hx
      rw [← hTT]
      clear c1 HS HL HON h1 hz hzl hS hTT hSz hTz h3 hq hp1 hp2 hx hka
      go_wp2_with (first
        | (go_at_call 19; refine (CS _).out.mono ?_; rintro e w1 ⟨rfl, b1⟩; have HB1 := hid (X.then b1); have HO1 := hid (own_ext HO.out b1); clear b1)
        | (go_at_call 48; first
            | (have h33 := HB3.out; clear h33; refine (CW2 _).out.mono ?_; rintro e w4 ⟨rfl, b4⟩; have HB4 := hid (HB3.out.then b4); have HO4 := hid (own_ext HO3.out b4); clear b4)
            | (refine (CW1 _).out.mono ?_; rintro e w2 ⟨rfl, b2⟩; have HB2 := hid (HB1.out.then b2); have HO2 := hid (own_ext HO1.out b2); clear b2 CW1))
        | (at_builtin; refine wpList_app rfl (.tmp 17) (.tmp 20) rowU8 rfl _ E.length _ rfl HO2.out _ p1.length (u8s p1) rfl (Src.ofList Try.underlying9 p1) (by unfold maxLen; omega) (by omega) HB2.out.size ?_; intro v3 w3 hown3 hg3 ha3 hb3; have HB3 : Hid (Ext w w3) := hid (HB2.out.trans hb3); have HO3 := hid hown3; clear hown3 hg3 ha3 hb3)
        | (at_builtin; refine wpList_app rfl (.tmp 22) (.tmp 28) rowU8 rfl _ (E.length + p1.length) _ rfl HO4.out _ p2.length (u8s p2) rfl (Src.ofList Try.underlying9 p2) (by unfold maxLen; omega) (by omega) HB4.out.size ?_; intro v5 w5 hown5 hg5 ha5 hb5; have HB5 : Hid (Ext w w5) := hid (HB4.out.trans hb5); have HO5 := hid hown5; clear hown5 hg5 ha5 hb5)
        | (at_builtin; refine wpList_app rfl (.tmp 30) (.tmp 33) rowU8 rfl _ (E.length + p1.length + p2.length) _ rfl HO5.out _ q.length (u8s q) rfl (Src.ofList Try.underlying9 q) (by unfold maxLen; omega) (by omega) HB5.out.size ?_; intro v6 w6 hown6 hg6 ha6 hb6; have HB6 : Hid (Ext w w6) := hid (HB5.out.trans hb6); have HO6 := hid hown6; clear hown6 hg6 ha6 hb6))
      go_roundw
      case rel =>
        refine ⟨k + 1, E ++ p1 ++ p2 ++ q, s, by omega, by go_num, hid HS2.out.symm, by simp only [List.length_append]; omega, hid hLS.out.symm, HSx.out, by rw [HSS.out], ?_, HB6.out⟩
        simp only [List.length_append, u8s_app]; exact HO6.out
      case measure => simp [intOf]; omega
    · obtain rfl : k = n := by omega
      have hs := run_str_own (w := wr) Try.underlying71 Try.underlying5 Try.underlying9 HO.out
      have HE2 := hid (show E = Front.enc [] l by rw [HE.out, List.take_of_length_le (by rw [HN.out]; exact Nat.le_refl _)])
      go_wp2
      go_returns
      exact ⟨by rw [← HE2.out]; rfl, X⟩
theorem long_any (s : ByteArray) (w : World) : Calls Try.prog 36 #[.string s] w fun e w' => e = .returned (.bool (decide (16 < s.size))) ∧ w = w' := by
  have hI : decide ((16 : Int) < (s.size : Int)) = decide (16 < s.size) := by simp; omega
  have HI := hid hI
  clear hI
  go_enter Try.func36, Try.ntmps36
  go_wp2
  go_returns
  exact ⟨by rw [← HI.out]; rfl, rfl⟩
end Go.Proofs.Ytgobnpogmghgkaa
