/- Texts of this claim, put together: walks and plain laws. -/
import Derived.Test.YthgnipangcmanaaGreatZG1
import Derived.Test.YthgnipangcmanaaGreatZD1
import Derived.Test.YthgnipangcmanaaGreatRows
import Derived.Test.YthgnipangcmanaaGreatZV1
section
namespace Go.Proofs.YthgnipangcmanaaGreat
open Go.RowKit Hy
set_option maxHeartbeats 800000 in
theorem shared_any (a b : ByteArray) (w : World) (ha : a.size ≤ 9223372036854775806) :
    Calls Tryz.prog 151 #[.string a, .string b] w fun e w' => e = .returned (.int .i64 (Front.shr a.data.toList b.data.toList)) ∧ Ext w w' := by
  have la : a.data.toList.length = a.size := Array.length_toList
  have lb : b.data.toList.length = b.size := Array.length_toList
  obtain ⟨z, hz⟩ : ∃ z, z = Front.shr a.data.toList b.data.toList := ⟨_, rfl⟩
  rw [← hz]
  have HSt := hid (Front.shr_stop a.data.toList b.data.toList)
  have HM := hid (Front.shr_more a.data.toList b.data.toList)
  have HZ := hid hz
  have HLA := hid la
  have HLB := hid lb
  have IA := hid (fun k (h : k < a.data.toList.length) (wx : World) => run_ix (P := Tryz.prog) (w := wx) Tryz.underlying9 a .i64 k _ (List.getElem?_eq_getElem h))
  have IB := hid (fun k (h : k < b.data.toList.length) (wx : World) => run_ix (P := Tryz.prog) (w := wx) Tryz.underlying9 b .i64 k _ (List.getElem?_eq_getElem h))
  clear hz la lb
  go_enter Tryz.func151, Tryz.ntmps151
  go_wp2
  go_loopw [5] (fun c wr => ∃ k : Nat, k ≤ a.size ∧ k ≤ b.size ∧ c = .int .i64 k ∧ Hid (a.data.toList.take k = b.data.toList.take k) ∧ Ext w wr) (fun c _ => a.size - (intOf c).toNat)
  case atStart => exact ⟨0, Nat.zero_le _, Nat.zero_le _, rfl, hid rfl, ext_refl _⟩
  case round =>
    obtain ⟨k, hk1, hk2, rfl, HT, X⟩ := hrel
    by_cases h1 : k < a.size
    · by_cases h2 : k < b.size
      · have ka : k < a.data.toList.length := by rw [HLA.out]; exact h1
        have kb : k < b.data.toList.length := by rw [HLB.out]; exact h2
        have i1 := IA.out k ka
        have i2 := IB.out k kb
        have HMk := hid (HM.out k HT.out ka kb)
        have HSk : Hid (¬ a.data.toList[k] = b.data.toList[k] → _) := hid (fun h => HSt.out k HT.out (Nat.le_of_lt ka) (Nat.le_of_lt kb) (fun _ _ => h))
        generalize a.data.toList[k] = x at *
        generalize b.data.toList[k] = y at *
        have d1 : decide (k < a.size) = true := decide_eq_true h1
        have d2 : decide (k < b.size) = true := decide_eq_true h2
        have hxb := x.toNat_lt
        have hyb := y.toNat_lt
        have hxI : (x.toNat : Int) ≤ 255 := by omega
        have hyI : (y.toNat : Int) ≤ 255 := by omega
        clear hxb hyb ka kb
        by_cases hxy : x = y
        · have HM2 := hid (HMk.out hxy)
          subst hxy
          clear HMk HSk
          go_wp2_with fail
          go_quiet (fail)
          go_wp2
          go_roundw
          case rel => exact ⟨k + 1, by omega, by omega, by go_num, HM2, X.draws _⟩
          case measure => simp [intOf]; omega
        · have HS2 := hid (HSk.out hxy)
          have e1 : (x.toNat == y.toNat) = false := by rw [beq_eq_false_iff_ne]; exact fun h => hxy (UInt8.toNat.inj h)
          have e2 : ((x.toNat : Int) == (y.toNat : Int)) = false := by rw [beq_eq_false_iff_ne]; exact fun h => hxy (UInt8.toNat.inj (by omega))
          clear HMk HSk hxy
          go_wp2_with fail
          go_quiet (fail)
          go_wp2
          go_returns
          exact ⟨by rw [HZ.out, HS2.out]; rfl, X.draws _⟩
      · have HS2 := hid (HSt.out k HT.out (by rw [HLA.out]; omega) (by rw [HLB.out]; omega) (fun _ hb => absurd hb (by rw [HLB.out]; exact h2)))
        have d1 : decide (k < a.size) = true := decide_eq_true h1
        have d2 : decide (k < b.size) = false := decide_eq_false h2
        go_wp2_with fail
        go_quiet (fail)
        go_wp2
        go_returns
        exact ⟨by rw [HZ.out, HS2.out]; rfl, X.draws _⟩
    · have HS2 := hid (HSt.out k HT.out (by rw [HLA.out]; omega) (by rw [HLB.out]; omega) (fun ha _ => absurd ha (by rw [HLA.out]; exact h1)))
      have d1 : decide (k < a.size) = false := decide_eq_false h1
      go_wp2_with fail
      go_quiet (fail)
      go_wp2
      go_returns
      exact ⟨by rw [HZ.out, HS2.out]; rfl, X.draws _⟩
set_option maxHeartbeats 800000 in
theorem sharedOf_any (a b : ByteArray) (w : World) (ha : a.size ≤ 9223372036854775806) :
    Calls Tryz.prog 132 #[.string a, .string b] w fun e w' => e = .returned (.int .i64 (Front.shr a.data.toList b.data.toList)) ∧ Ext w w' := by
  have la : a.data.toList.length = a.size := Array.length_toList
  have lb : b.data.toList.length = b.size := Array.length_toList
  obtain ⟨z, hz⟩ : ∃ z, z = Front.shr a.data.toList b.data.toList := ⟨_, rfl⟩
  have hle := Front.shr_le a.data.toList b.data.toList
  have hif := Front.shr_iff a.data.toList b.data.toList
  rw [← hz, la, lb] at hle
  rw [← hz, la, lb] at hif
  rw [← hz]
  have HIF := hid hif
  have IA := hid (fun k (h : k ≤ a.size) (wx : World) => run_to (P := Tryz.prog) (w := wx) Tryz.underlying9 a .i64 k h)
  have IB := hid (fun k (h : k ≤ b.size) (wx : World) => run_to (P := Tryz.prog) (w := wx) Tryz.underlying9 b .i64 k h)
  obtain ⟨z1, z2⟩ := hle
  clear hz la lb hif
  go_enter Tryz.func132, Tryz.ntmps132
  go_wp2
  go_loopw [5] (fun c wr => ∃ k : Nat, k ≤ a.size ∧ z ≤ k ∧ c = .int .i64 k ∧ Ext w wr) (fun c _ => (intOf c).toNat)
  case atStart => exact ⟨a.size, Nat.le_refl _, z1, rfl, ext_refl _⟩
  case round =>
    obtain ⟨k, hk1, hk2, rfl, X⟩ := hrel
    by_cases h1 : b.size < k
    · have d1 : decide (b.size < k) = true := decide_eq_true h1
      have hk0 : (1 : Int) ≤ (k : Int) := by omega
      go_wp2_with fail
      go_quiet (fail)
      go_wp2
      go_roundw
      case rel => exact ⟨k - 1, by omega, by omega, by go_num, X.draws _⟩
      case measure => simp [intOf]; omega
    · have d1 : decide (b.size < k) = false := decide_eq_false h1
      have i1 := IA.out k hk1
      have i2 := IB.out k (by omega)
      have hI := HIF.out k hk1 (by omega)
      obtain ⟨S, hS⟩ : ∃ S : ByteArray, S = ⟨(a.data.toList.take k).toArray⟩ := ⟨_, rfl⟩
      obtain ⟨T, hT⟩ : ∃ T : ByteArray, T = ⟨(b.data.toList.take k).toArray⟩ := ⟨_, rfl⟩
      rw [← hS] at i1
      rw [← hT] at i2
      by_cases h2 : k ≤ z
      · have e1 : (S.toList == T.toList) = true := by rw [hS, hT, ByteArray.toList_mk, ByteArray.toList_mk, hI.1 h2]; simp
        obtain rfl : k = z := by omega
        clear hI hS hT h2
        go_wp2_with fail
        go_quiet (fail)
        go_wp2
        go_returns
        exact ⟨rfl, X.draws _⟩
      · have e1 : (S.toList == T.toList) = false := by rw [hS, hT, ByteArray.toList_mk, ByteArray.toList_mk, beq_eq_false_iff_ne]; exact fun h => h2 (hI.2 h)
        have hk0 : (1 : Int) ≤ (k : Int) := by omega
        clear hI hS hT
        go_wp2_with fail
        go_quiet (fail)
        go_wp2
        go_roundw
        case rel => exact ⟨k - 1, by omega, by omega, by go_num, X.draws _⟩
        case measure => simp [intOf]; omega
end Go.Proofs.YthgnipangcmanaaGreat
end
section
namespace Hy.Front
open Go Hy.Vary
theorem lastD_snoc {α : Type} (l : List α) (x d : α) : (l ++ [x]).getLastD d = x := by simp [List.getLastD_eq_getLast?]
theorem lastD_len (l : List Tx) (h : ∀ s ∈ l, s.length ≤ 16) : (l.getLastD []).length ≤ 16 := by
  rw [List.getLastD_eq_getLast?]
  cases e : l.getLast? with
  | none => simp
  | some x => exact h x (List.mem_of_getLast? e)
end Hy.Front
namespace Go.Proofs.YthgnipangcmanaaGreat
open Go.RowKit Hy
set_option maxHeartbeats 800000 in
theorem raw_any (l : List (List UInt8)) (A : Option Addr) (n cap : Nat) (w : World) (hn : l.length = n) (hr : Rd w A (txs l)) (hnl : n ≤ 64) (hf : Front.fitB l = true) :
    Calls Tryz.prog 108 #[.slice A n cap] w fun e w' => e = .returned (.string ⟨(Front.bytes l).toArray⟩) ∧ Ext w w' := by
  rw [Front.bytes_eq]
  have HN := hid hn
  have HA := hid hr
  have HF := hid ((Front.fitB_iff l).1 hf)
  clear hr hn hf
  go_enter Tryz.func108, Tryz.ntmps108
  go_wp2
  go_loopw [3, 4, 6, 7, 10] (fun v t _ _ c wr => ∃ (k : Nat) (E T : List UInt8), k ≤ n ∧ c = .int .i64 k ∧ Hid (E = Front.enc [] (l.take k)) ∧ E.length ≤ 18 * k ∧ Hid (T = (l.take k).getLastD []) ∧ T.length ≤ 16 ∧ t = .string ⟨T.toArray⟩ ∧ wr.ownsRow w.heap.size 5 1 v E.length (u8s E) ∧ Ext w wr) (fun _ _ _ _ c _ => n - (intOf c).toNat)
  case atStart => exact ⟨0, [], [], Nat.zero_le _, rfl, hid rfl, Nat.le_refl _, hid rfl, Nat.zero_le _, rfl, World.ownsRow_nil _ _ _ _, ext_refl _⟩
  case round =>
    obtain ⟨k, E, T, hk, rfl, HE, hE, HT, hT, rfl, hown, X⟩ := hrel
    have HO := hid hown
    clear hown
    by_cases hlt : k < n
    · have hka : k < l.length := by rw [HN.out]; exact hlt
      obtain ⟨b1, o1, e1, l1, c1⟩ := HA.out.texts k hka
      subst e1
      have d1 := (X.cell (p := ⟨b1, o1 + k, none⟩) l1).trans (c1 k hka)
      have hx := HF.out l[k] (List.getElem_mem hka)
      have HS := hid (show Front.enc [] (l.take (k + 1)) = E ++ Front.one T l[k] by rw [List.take_succ_eq_append_getElem hka, Front.enc_snoc, HE.out, HT.out])
      have HL := hid (show (l.take (k + 1)).getLastD [] = l[k] by rw [List.take_succ_eq_append_getElem hka, Front.lastD_snoc])
      generalize l[k] = s at *
      obtain ⟨z, hz⟩ : ∃ z, z = Front.shr T s := ⟨_, rfl⟩
      have hzl := (Front.shr_le T s).2
      have HON := hid (Front.one_len T s hx)
      have h1 : Front.one T s = Vary.wr z ++ (Vary.wr (s.length - z) ++ s.drop z) := by rw [hz]; rfl
      rw [← hz] at hzl HON
      obtain ⟨S, hS⟩ : ∃ S : ByteArray, S = ⟨s.toArray⟩ := ⟨_, rfl⟩
      obtain ⟨TT, hTT⟩ : ∃ TT : ByteArray, TT = ⟨T.toArray⟩ := ⟨_, rfl⟩
      have hSz : S.size = s.length := by rw [hS, str_size]
      have hTz : TT.size = T.length := by rw [hTT, str_size]
      have CS : ∀ wx : World, Hid (Calls Tryz.prog 151 #[.string TT, .string S] wx fun e w' => e = .returned (.int .i64 z) ∧ Ext wx w') := fun wx => by
        rw [hz, hS, hTT]; exact hid (shared_any ⟨T.toArray⟩ ⟨s.toArray⟩ wx (by rw [str_size]; omega))
      have CW1 := fun wx : World => hid (write_any z wx (by omega))
      have CW2 : ∀ wx : World, Hid (Calls Tryz.prog 19 #[.int .u64 ((S.size : Int) - (z : Int))] wx fun e w' => e = .returned (.string ⟨(Vary.wr (s.length - z)).toArray⟩) ∧ Ext wx w') := fun wx => by
        have := write_any (s.length - z) wx (by omega)
        rw [show ((s.length - z : Nat) : Int) = (S.size : Int) - (z : Int) from by omega] at this
        exact hid this
      have hR := fun wx : World => run_from (P := Tryz.prog) (w := wx) Tryz.underlying9 S .i64 z (by omega)
      have h3 : S.data.toList = s := by rw [hS]
      rw [h3] at hR
      obtain ⟨q, hq⟩ : ∃ q, q = s.drop z := ⟨_, rfl⟩
      have hql : q.length ≤ 16 := by rw [hq, List.length_drop]; omega
      rw [← hq] at hR h1
      obtain ⟨p1, hp1⟩ : ∃ p1, p1 = Vary.wr z := ⟨_, rfl⟩
      obtain ⟨p2, hp2⟩ : ∃ p2, p2 = Vary.wr (s.length - z) := ⟨_, rfl⟩
      have hp1l : p1.length ≤ 9 := by rw [hp1, Vary.wr_len]; have := Vary.beh_le8 z; omega
      have hp2l : p2.length ≤ 9 := by rw [hp2, Vary.wr_len]; have := Vary.beh_le8 (s.length - z); omega
      rw [← hp1] at CW1 h1
      rw [← hp2] at CW2 h1
      have HS2 := hid (show Front.enc [] (l.take (k + 1)) = E ++ p1 ++ p2 ++ q by rw [HS.out, h1]; simp)
      have hlen : E.length + p1.length + p2.length + q.length ≤ 18 * (k + 1) := by
        have := HON.out
        rw [h1] at this
        simp only [List.length_append] at this
        omega
      have hLS : Hid ((l.take (k + 1)).getLastD [] = s) := HL
      have hzI : (z : Int) ≤ 16 := by omega
      have hzS : (z : Int) ≤ (S.size : Int) := by omega
      have hSI : (S.size : Int) ≤ 16 := by omega
      rw [← hS] at d1
      have HSS := hid hS
      have HSx := hid hx
      rw [← hTT]
      clear c1 HS HL HON h1 hz hzl hS hTT hSz hTz h3 hq hp1 hp2 hx hka
      go_wp2_with (first
        | (go_at_call 151; refine (CS _).out.mono ?_; rintro e w1 ⟨rfl, b1⟩; have HB1 := hid (X.then b1); have HO1 := hid (own_ext HO.out b1); clear b1)
        | (go_at_call 19; first
            | (have h33 := HB3.out; clear h33; refine (CW2 _).out.mono ?_; rintro e w4 ⟨rfl, b4⟩; have HB4 := hid (HB3.out.then b4); have HO4 := hid (own_ext HO3.out b4); clear b4)
            | (refine (CW1 _).out.mono ?_; rintro e w2 ⟨rfl, b2⟩; have HB2 := hid (HB1.out.then b2); have HO2 := hid (own_ext HO1.out b2); clear b2 CW1))
        | (at_builtin; refine wpList_app rfl (.tmp 17) (.tmp 20) rowU8 rfl _ E.length _ rfl HO2.out _ p1.length (u8s p1) rfl (Src.ofList Tryz.underlying9 p1) (by unfold maxLen; omega) (by omega) HB2.out.size ?_; intro v3 w3 hown3 hg3 ha3 hb3; have HB3 : Hid (Ext w w3) := hid (HB2.out.trans hb3); have HO3 := hid hown3; clear hown3 hg3 ha3 hb3)
        | (at_builtin; refine wpList_app rfl (.tmp 22) (.tmp 28) rowU8 rfl _ (E.length + p1.length) _ rfl HO4.out _ p2.length (u8s p2) rfl (Src.ofList Tryz.underlying9 p2) (by unfold maxLen; omega) (by omega) HB4.out.size ?_; intro v5 w5 hown5 hg5 ha5 hb5; have HB5 : Hid (Ext w w5) := hid (HB4.out.trans hb5); have HO5 := hid hown5; clear hown5 hg5 ha5 hb5)
        | (at_builtin; refine wpList_app rfl (.tmp 30) (.tmp 33) rowU8 rfl _ (E.length + p1.length + p2.length) _ rfl HO5.out _ q.length (u8s q) rfl (Src.ofList Tryz.underlying9 q) (by unfold maxLen; omega) (by omega) HB5.out.size ?_; intro v6 w6 hown6 hg6 ha6 hb6; have HB6 : Hid (Ext w w6) := hid (HB5.out.trans hb6); have HO6 := hid hown6; clear hown6 hg6 ha6 hb6))
      go_roundw
      case rel =>
        refine ⟨k + 1, E ++ p1 ++ p2 ++ q, s, by omega, by go_num, hid HS2.out.symm, by simp only [List.length_append]; omega, hid hLS.out.symm, HSx.out, by rw [HSS.out], ?_, HB6.out⟩
        simp only [List.length_append, u8s_app]; exact HO6.out
      case measure => simp [intOf]; omega
    · obtain rfl : k = n := by omega
      have hs := run_str_own (w := wr) Tryz.underlying42 Tryz.underlying5 Tryz.underlying9 HO.out
      have HE2 := hid (show E = Front.enc [] l by rw [HE.out, List.take_of_length_le (by rw [HN.out]; exact Nat.le_refl _)])
      go_wp2
      go_returns
      exact ⟨by rw [← HE2.out]; rfl, X⟩
end Go.Proofs.YthgnipangcmanaaGreat
end
section
namespace Hy.Front
open Go Hy.Vary
@[irreducible] def St (i : Nat) (s x : Tx) (n m : Nat) : Prop :=
  match i with
  | 0 => x = s ∧ n = 0 ∧ m = 0
  | 1 => ∃ k, rd s = (n, k, 0) ∧ x = s.drop k ∧ m = 0
  | _ => ∃ k j, rd s = (n, k, 0) ∧ rd (s.drop k) = (m, j, 0) ∧ x = (s.drop k).drop j
theorem st0 (s : Tx) : St 0 s s 0 0 := by unfold St; exact ⟨rfl, rfl, rfl⟩
theorem st0_inv {s x : Tx} {n m : Nat} (h : St 0 s x n m) : x = s ∧ n = 0 ∧ m = 0 := by unfold St at h; exact h
theorem st1 {s : Tx} {n k : Nat} (h : rd s = (n, k, 0)) : St 1 s (s.drop k) n 0 := by unfold St; exact ⟨k, h, rfl, rfl⟩
theorem st1_inv {s x : Tx} {n m : Nat} (h : St 1 s x n m) : ∃ k, rd s = (n, k, 0) ∧ x = s.drop k ∧ m = 0 := by unfold St at h; exact h
theorem st2 {s x : Tx} {n m k j : Nat} (h : rd s = (n, k, 0)) (hx : x = s.drop k) (h2 : rd x = (m, j, 0)) : St 2 s (x.drop j) n m := by subst hx; unfold St; exact ⟨k, j, h, h2, rfl⟩
theorem st2_inv {s x : Tx} {n m : Nat} (h : St 2 s x n m) : ∃ k j, rd s = (n, k, 0) ∧ rd (s.drop k) = (m, j, 0) ∧ x = (s.drop k).drop j := by unfold St at h; exact h
end Hy.Front
namespace Go.Proofs.YthgnipangcmanaaGreat
open Go.RowKit Hy
def TextOut (s last : List UInt8) (g : Nat) (t : TypeId) (w : World) (e : Ending) (w' : World) : Prop :=
  e = .returned (.tuple #[.string ⟨(Front.txt s last).1.toArray⟩, .int .i64 ((Front.txt s last).2.2 : Nat)]) ∧ But g w w' ∧
    ((Front.txt s last).2.2 = 0 → Blk w' g t #[.string ⟨(Front.txt s last).2.1.toArray⟩, .string ⟨(Front.txt s last).1.toArray⟩])
set_option maxHeartbeats 3200000 in
theorem text_any (s last : List UInt8) (g : Nat) (w : World) (hB : Blk w g 169 #[.string ⟨s.toArray⟩, .string ⟨last.toArray⟩]) (hs : s.length ≤ 281474976710656) (hl : last.length ≤ 16) :
    Calls Tryz.prog 161 #[.pointer (some ⟨g, 0, none⟩)] w (TextOut s last g 169 w) := by
  have HB := hid hB
  have hlt := hB.lt
  obtain ⟨LL, hLL⟩ : ∃ LL : ByteArray, LL = ⟨last.toArray⟩ := ⟨_, rfl⟩
  have hLs : LL.size = last.length := by rw [hLL, str_size]
  have HLL := hid hLL
  have HLs := hid hLs
  have HLd := hid (show LL.data.toList = last by rw [hLL])
  rw [← hLL] at HB
  clear hB hLL
  have hLI : (LL.size : Int) ≤ 16 := by omega
  go_enter Tryz.func161, Tryz.ntmps161
  go_wp2
  go_loopw [5, 6, 7, 8, 12] (fun _ _ _ _ c wr => ∃ (i : Nat) (x : List UInt8) (n m : Nat), i ≤ 2 ∧ c = .int .i64 i ∧ Hid (Front.St i s x n m) ∧ x.length ≤ 281474976710656 ∧ n < 18446744073709551616 ∧ m < 18446744073709551616 ∧ Blk wr g 169 #[.string ⟨x.toArray⟩, .string LL] ∧ Blk wr w.heap.size 188 #[.int .u64 n, .int .u64 m] ∧ But g w wr) (fun _ _ _ _ c _ => 2 - (intOf c).toNat)
  case atStart => exact ⟨0, s, 0, 0, by omega, rfl, hid (Front.st0 s), hs, by omega, by omega, HB.out.alloc _, Blk.new _ _ _, (but_refl g w).new _⟩
  case round =>
    obtain ⟨i, x, n, m, hi, rfl, HSt, hx, hn, hm, B, C, X⟩ := hrel
    have hgne : g ≠ w.heap.size := by omega
    obtain ⟨XX, hXX⟩ : ∃ XX : ByteArray, XX = ⟨x.toArray⟩ := ⟨_, rfl⟩
    have hXd : XX.data.toList = x := by rw [hXX]
    have hXs : XX.size = x.length := by rw [hXX, str_size]
    rw [← hXX] at B
    have HXX := hid hXX
    have HXd := hid hXd
    clear hXX hXd
    have hc0 := B.cell 0
    have hc1 := B.cell 1
    have hf0 := B.frozen 0
    have hf1 := B.frozen 1
    have k0 := C.cell 0
    have k1 := C.cell 1
    have z0 := C.frozen 0
    have z1 := C.frozen 1
    have HBB := hid B
    have HCC := hid C
    clear B C
    by_cases h0 : i = 0
    · subst h0
      obtain ⟨rfl, rfl, rfl⟩ := Front.st0_inv HSt.out
      obtain ⟨a, k2, e, hrd⟩ : ∃ a k2 e, Vary.rd x = (a, k2, e) := ⟨_, _, _, rfl⟩
      have CR : ∀ wx : World, Hid (Calls Tryz.prog 52 #[.string XX] wx fun e' w' => e' = .returned (.tuple #[.int .u64 a, .int .i64 k2, .int .i64 e]) ∧ Ext wx w') := fun wx => by
        have := read_any XX wx
        rw [HXd.out, hrd] at this
        exact hid this
      by_cases he : e = 0
      · subst he
        obtain ⟨r1, r2, r3, r4, _⟩ := Vary.rd_ok (s := x) (by rw [hrd])
        rw [hrd] at r1 r2 r3 r4
        simp only at r1 r2 r3 r4
        have hT := fun wx : World => run_from (P := Tryz.prog) (w := wx) Tryz.underlying9 XX .i64 k2 (by omega)
        rw [HXd.out] at hT
        have HST2 := hid (Front.st1 hrd)
        have haI : (a : Int) ≤ 18446744073709551615 := by omega
        have HA := hid r4
        have HX2 := hid (show (x.drop k2).length ≤ 281474976710656 by rw [List.length_drop]; omega)
        clear hrd r1 r2 r3 r4 HSt hs
        go_wp2_with (go_at_call 52; refine (CR _).out.mono ?_; rintro e w2 ⟨rfl, b2⟩; have B2 := hid (HBB.out.keep b2); have C2 := hid (HCC.out.keep b2); have X2 := hid (X.ext b2); have hc02 := B2.out.cell 0; have hf02 := B2.out.frozen 0; have k02 := C2.out.cell 0; have z02 := C2.out.frozen 0; clear b2 hc0 hc1 hf0 hf1 k0 k1 z0 z1)
        go_roundw
        case rel =>
          refine ⟨1, x.drop k2, a, 0, by omega, by go_num, HST2, HX2.out, HA.out, by omega, ?_, ?_, ?_⟩
          · exact ((B2.out.far (p := ⟨w.heap.size, 0, none⟩) hgne _).set 0 _).cast rfl
          · exact ((C2.out.set 0 _).cast rfl).far (p := ⟨g, 0, none⟩) (Ne.symm hgne) _
          · exact (X2.out.put ⟨w.heap.size, 0, none⟩ (.inr (Nat.le_refl _)) _).put ⟨g, 0, none⟩ (.inl rfl) _
        case measure => simp [intOf]
      · have h3 : ((e : Int) != 0) = true := by rw [bne_iff_ne]; omega
        have h4 : ((e : Int) == 0) = false := by rw [beq_eq_false_iff_ne]; omega
        have HTX := hid (Front.txt_1 (last := last) hrd he)
        have HE := hid he
        clear hrd he HSt
        go_wp2_with (go_at_call 52; refine (CR _).out.mono ?_; rintro e w2 ⟨rfl, b2⟩; have B2 := hid (HBB.out.keep b2); have C2 := hid (HCC.out.keep b2); have X2 := hid (X.ext b2); have hc02 := B2.out.cell 0; have hf02 := B2.out.frozen 0; clear b2 hc0 hc1 hf0 hf1 k0 k1 z0 z1)
        go_returns
        exact ⟨by rw [HTX.out]; rfl, X2.out, fun h => absurd h (by rw [HTX.out]; exact HE.out)⟩
    · by_cases h1 : i = 1
      · subst h1
        obtain ⟨k, hr1, hx1, rfl⟩ := Front.st1_inv HSt.out
        obtain ⟨a, k2, e, hrd⟩ : ∃ a k2 e, Vary.rd x = (a, k2, e) := ⟨_, _, _, rfl⟩
        have CR : ∀ wx : World, Hid (Calls Tryz.prog 52 #[.string XX] wx fun e' w' => e' = .returned (.tuple #[.int .u64 a, .int .i64 k2, .int .i64 e]) ∧ Ext wx w') := fun wx => by
          have := read_any XX wx
          rw [HXd.out, hrd] at this
          exact hid this
        by_cases he : e = 0
        · subst he
          obtain ⟨r1, r2, r3, r4, _⟩ := Vary.rd_ok (s := x) (by rw [hrd])
          rw [hrd] at r1 r2 r3 r4
          simp only at r1 r2 r3 r4
          have hT := fun wx : World => run_from (P := Tryz.prog) (w := wx) Tryz.underlying9 XX .i64 k2 (by omega)
          rw [HXd.out] at hT
          have HST2 := hid (Front.st2 hr1 hx1 hrd)
          have haI : (a : Int) ≤ 18446744073709551615 := by omega
          have HA := hid r4
          have HX2 := hid (show (x.drop k2).length ≤ 281474976710656 by rw [List.length_drop]; omega)
          clear hrd r1 r2 r3 r4 HSt hr1 hx1
          go_wp2_with (go_at_call 52; refine (CR _).out.mono ?_; rintro e w2 ⟨rfl, b2⟩; have B2 := hid (HBB.out.keep b2); have C2 := hid (HCC.out.keep b2); have X2 := hid (X.ext b2); have hc02 := B2.out.cell 0; have hf02 := B2.out.frozen 0; have k02 := C2.out.cell 1; have z02 := C2.out.frozen 1; clear b2 hc0 hc1 hf0 hf1 k0 k1 z0 z1)
          go_roundw
          case rel =>
            refine ⟨2, x.drop k2, n, a, by omega, by go_num, HST2, HX2.out, hn, HA.out, ?_, ?_, ?_⟩
            · exact ((B2.out.far (p := ⟨w.heap.size, 1, none⟩) hgne _).set 0 _).cast rfl
            · exact ((C2.out.set 1 _).cast rfl).far (p := ⟨g, 0, none⟩) (Ne.symm hgne) _
            · exact (X2.out.put ⟨w.heap.size, 1, none⟩ (.inr (Nat.le_refl _)) _).put ⟨g, 0, none⟩ (.inl rfl) _
          case measure => simp [intOf]
        · have h3 : ((e : Int) != 0) = true := by rw [bne_iff_ne]; omega
          have h4 : ((e : Int) == 0) = false := by rw [beq_eq_false_iff_ne]; omega
          have HTX := hid (Front.txt_2 (last := last) hr1 hx1 hrd he)
          have HE := hid he
          clear hrd he HSt
          go_wp2_with (go_at_call 52; refine (CR _).out.mono ?_; rintro e w2 ⟨rfl, b2⟩; have B2 := hid (HBB.out.keep b2); have C2 := hid (HCC.out.keep b2); have X2 := hid (X.ext b2); have hc02 := B2.out.cell 0; have hf02 := B2.out.frozen 0; clear b2 hc0 hc1 hf0 hf1 k0 k1 z0 z1)
          go_returns
          exact ⟨by rw [HTX.out]; rfl, X2.out, fun h => absurd h (by rw [HTX.out]; exact HE.out)⟩
      · obtain rfl : i = 2 := by omega
        obtain ⟨k, j, hr1, hr2, hx2⟩ := Front.st2_inv HSt.out
        have hXI : (XX.size : Int) ≤ 281474976710656 := by omega
        have hnI : (n : Int) ≤ 18446744073709551615 := by omega
        have hmI : (m : Int) ≤ 18446744073709551615 := by omega
        clear HSt
        by_cases g1 : last.length < n
        · have HTX := hid (Front.txt_3 (last := last) hr1 rfl hr2 g1)
          have g1I : (LL.size : Int) < (n : Int) := by omega
          clear hr1 hr2 hx2 g1 hx hn hm hs hl hLs hXs
          go_wp2_with fail
          go_quiet (fail)
          go_wp2
          go_returns
          exact ⟨by rw [HTX.out]; rfl, X.draws _, fun h => absurd h (by rw [HTX.out]; decide)⟩
        · have g1I : (n : Int) ≤ (LL.size : Int) := by omega
          have hn16 : (n : Int) ≤ 16 := by omega
          by_cases g2 : 16 - n < m
          · have HTX := hid (Front.txt_4 (last := last) hr1 rfl hr2 g1 g2)
            have g2I : (16 : Int) - (n : Int) < (m : Int) := by omega
            clear hr1 hr2 hx2 g1 g2 hx hn hm hs hl hLs hXs
            go_wp2_with fail
            go_quiet (fail)
            go_wp2
            go_returns
            exact ⟨by rw [HTX.out]; rfl, X.draws _, fun h => absurd h (by rw [HTX.out]; decide)⟩
          · have g2I : (m : Int) ≤ (16 : Int) - (n : Int) := by omega
            have hm16 : (m : Int) ≤ 16 := by omega
            by_cases g3 : x.length < m
            · have HTX := hid (Front.txt_5 (last := last) hr1 rfl hr2 g1 g2 rfl (by rw [← hx2]; exact g3))
              have g3I : (XX.size : Int) < (m : Int) := by omega
              clear hr1 hr2 hx2 g1 g2 g3 hx hn hm hs hl hLs hXs
              go_wp2_with fail
              go_quiet (fail)
              go_wp2
              go_returns
              exact ⟨by rw [HTX.out]; rfl, X.draws _, fun h => absurd h (by rw [HTX.out]; decide)⟩
            · have g3I : (m : Int) ≤ (XX.size : Int) := by omega
              have i1 := fun wx : World => run_to (P := Tryz.prog) (w := wx) Tryz.underlying9 LL .u64 n (by omega)
              have i2 := fun wx : World => run_to (P := Tryz.prog) (w := wx) Tryz.underlying9 XX .u64 m (by omega)
              have i3 := fun wx : World => run_from (P := Tryz.prog) (w := wx) Tryz.underlying9 XX .u64 m (by omega)
              rw [HLd.out] at i1
              rw [HXd.out] at i2 i3
              obtain ⟨LT, hLT⟩ : ∃ LT : ByteArray, LT = ⟨(last.take n).toArray⟩ := ⟨_, rfl⟩
              obtain ⟨XT, hXT⟩ : ∃ XT : ByteArray, XT = ⟨(x.take m).toArray⟩ := ⟨_, rfl⟩
              obtain ⟨XD, hXD⟩ : ∃ XD : ByteArray, XD = ⟨(x.drop m).toArray⟩ := ⟨_, rfl⟩
              rw [← hLT] at i1
              rw [← hXT] at i2
              rw [← hXD] at i3
              have hLTs : LT.size ≤ 16 := by rw [hLT, str_size, List.length_take]; omega
              have hXTs : XT.size ≤ 16 := by rw [hXT, str_size, List.length_take]; omega
              have HTT := hid (show LT ++ XT = ⟨(last.take n ++ x.take m).toArray⟩ by rw [hLT, hXT, str_app])
              have HXDD := hid hXD
              obtain ⟨z, hz⟩ : ∃ z, z = Front.shr last (last.take n ++ x.take m) := ⟨_, rfl⟩
              have CS : ∀ wx : World, Hid (Calls Tryz.prog 151 #[.string LL, .string (LT ++ XT)] wx fun e w' => e = .returned (.int .i64 z) ∧ Ext wx w') := fun wx => by
                have := shared_any LL (LT ++ XT) wx (by omega)
                rw [HLd.out, HTT.out, ← hz] at this
                rw [HTT.out]
                exact hid this
              by_cases g4 : z = n
              · have HTX := hid (Front.txt_7 (last := last) hr1 rfl hr2 g1 g2 rfl (by rw [← hx2]; exact g3) (by rw [← hx2, ← hz, g4]))
                rw [← hx2] at HTX
                subst g4
                clear hr1 hr2 hx2 g1 g2 g3 hx hn hm hs hl hLs hXs hz hLT hXT hXD
                go_wp2_with fail
                go_quiet (fail)
                go_wp2
                go_quiet (fail)
                go_wp2_with (go_at_call 151; refine (CS _).out.mono ?_; rintro e w2 ⟨rfl, b2⟩; have B2 := hid ((HBB.out.drewN _).keep b2); have X2 := hid ((X.draws _).ext b2); have hc02 := B2.out.cell 0; have hf02 := B2.out.frozen 0; have hc12 := B2.out.cell 1; have hf12 := B2.out.frozen 1; clear b2 hc0 hc1 hf0 hf1 k0 k1 z0 z1)
                go_returns
                refine ⟨by rw [HTX.out, ← HTT.out]; rfl, (X2.out.put ⟨g, 0, none⟩ (.inl rfl) _).put ⟨g, 1, none⟩ (.inl rfl) _, fun _ => ?_⟩
                rw [HTX.out, ← HTT.out, ← HXDD.out]
                exact ((B2.out.set 0 _).set 1 _).cast rfl
              · have HTX := hid (Front.txt_6 (last := last) hr1 rfl hr2 g1 g2 rfl (by rw [← hx2]; exact g3) (by rw [← hx2, ← hz]; exact g4))
                have h3 : ((z : Int) != (n : Int)) = true := by rw [bne_iff_ne]; omega
                have h4 : ((z : Int) == (n : Int)) = false := by rw [beq_eq_false_iff_ne]; omega
                clear hr1 hr2 hx2 g1 g2 g3 g4 hx hn hm hs hl hLs hXs hz hLT hXT hXD
                go_wp2_with fail
                go_quiet (fail)
                go_wp2
                go_quiet (fail)
                go_wp2_with (go_at_call 151; refine (CS _).out.mono ?_; rintro e w2 ⟨rfl, b2⟩; have X2 := hid ((X.draws _).ext b2); clear b2 hc0 hc1 hf0 hf1 k0 k1 z0 z1)
                go_returns
                exact ⟨by rw [HTX.out]; rfl, X2.out, fun h => absurd h (by rw [HTX.out]; decide)⟩
end Go.Proofs.YthgnipangcmanaaGreat
end
section
namespace Go.Proofs.YthgnipangcmanaaGreat
open Go.RowKit Hy
theorem rowTx : RowT Tryz.prog 64 9 1 16 := RowT.mk' (z := .string ⟨#[]⟩) Tryz.underlying64 (by kernel_rfl) rfl (by decide)
set_option maxHeartbeats 1600000 in
theorem fread_any (s0 : ByteArray) (many : Int) (w : World) (hs : s0.size ≤ 281474976710656) :
    Calls Tryz.prog 125 #[.string s0, .int .i64 many] w (TextsOut (Front.rdl s0.data.toList many).1 (Front.rdl s0.data.toList many).2 w) := by
  by_cases h1 : many < 0
  · rw [Front.rdl_neg h1]
    go_enter Tryz.func125, Tryz.ntmps125
    go_wp2
    go_returns
    exact ⟨none, 0, rfl, fun h => by simp [txs] at h, ext_refl _⟩
  · by_cases h2 : 64 < many
    · rw [Front.rdl_many h2]
      go_enter Tryz.func125, Tryz.ntmps125
      go_wp2
      go_returns
      exact ⟨none, 0, rfl, fun h => by simp [txs] at h, ext_refl _⟩
    · obtain ⟨mm, rfl⟩ := Int.eq_ofNat_of_zero_le (show 0 ≤ many by omega)
      have hm : mm ≤ 64 := by omega
      have hmI : (mm : Int) ≤ 64 := by omega
      obtain ⟨M, hM⟩ : ∃ M, M = Front.rds mm s0.data.toList [] := ⟨_, rfl⟩
      have HR : Hid (Front.rdl s0.data.toList mm = if M.2 = 0 then M else ([], M.2)) := by rw [hM]; exact hid (Front.rdl_in hm)
      have HM := hid hM
      have hs0 : s0.data.toList.length = s0.size := Array.length_toList
      have HS0 := hid hs0
      have HSS := hid hs
      generalize Front.rdl s0.data.toList mm = R at *
      clear hM h1 h2 hs0 hs
      go_enter Tryz.func125, Tryz.ntmps125
      go_wp2
      go_loopw [6, 8, 9, 20] (fun v _ _ c wr => ∃ (k : Nat) (acc : List (List UInt8)) (s last : List UInt8), k ≤ mm ∧ c = .int .i64 k ∧ acc.length = k ∧ Hid (M = (acc ++ (Front.rds (mm - k) s last).1, (Front.rds (mm - k) s last).2)) ∧ s.length ≤ 281474976710656 ∧ last.length ≤ 16 ∧ Blk wr w.heap.size 169 #[.string ⟨s.toArray⟩, .string ⟨last.toArray⟩] ∧ wr.ownsRow (w.heap.size + 1) 9 1 v acc.length (txs acc) ∧ Ext w wr) (fun _ _ _ c _ => mm - (intOf c).toNat)
      case atStart => exact ⟨0, [], s0.data.toList, [], Nat.zero_le _, rfl, rfl, hid (by rw [HM.out]; rfl), by rw [HS0.out]; exact HSS.out, Nat.zero_le _, Blk.new _ _ _, World.ownsRow_nil _ _ _ _, (ext_refl _).new _⟩
      case round =>
        obtain ⟨k, acc, s, last, hk, rfl, hacc, HI, hs, hl, B, hown, X⟩ := hrel
        have HO := hid hown
        have HB := hid B
        by_cases hlt : k < mm
        · obtain ⟨t, r, e, hrd⟩ : ∃ t r e, Front.txt s last = (t, r, e) := ⟨_, _, _, rfl⟩
          have CT : Calls Tryz.prog 161 #[.pointer (some ⟨w.heap.size, 0, none⟩)] wr fun e' w' => e' = .returned (.tuple #[.string ⟨t.toArray⟩, .int .i64 (e : Nat)]) ∧ But w.heap.size wr w' ∧ (e = 0 → Blk w' w.heap.size 169 #[.string ⟨r.toArray⟩, .string ⟨t.toArray⟩]) :=
            (text_any s last w.heap.size wr B hs hl).mono fun e' w' h => by simp only [TextOut, hrd] at h; exact h
          have HCT := hid CT
          have hj : mm - k = mm - (k + 1) + 1 := by omega
          have e2 := HI.out
          rw [hj] at e2
          by_cases he : e = 0
          · subst he
            rw [Front.rds_ok hrd] at e2
            obtain ⟨ht1, ht2⟩ := Front.txt_ok hl hrd
            have hrl : r.length ≤ 281474976710656 := by
              have := congrArg List.length ht1
              rw [List.length_append] at this
              omega
            have HE := hid (show M = ((acc ++ [t]) ++ (Front.rds (mm - (k + 1)) r t).1, (Front.rds (mm - (k + 1)) r t).2) by rw [e2]; simp)
            clear CT hrd e2 ht1 HI hown B hs hl hj
            have HRL := hid hrl
            have HTL := hid ht2
            have HACI := hid (show acc.length ≤ 64 by omega)
            clear hrl ht2 hm
            go_wp2_with (first
              | (go_at_call 161; refine HCT.out.mono ?_; intro e w2 h; obtain ⟨rfl, x2, q2⟩ := h; have B2 := hid (q2 (by trivial)); have X2 := hid x2; clear x2 q2; have O2 := hid (own_but HO.out X2.out (Nat.lt_succ_self _)))
              | (at_builtin; refine wpList_app rfl (.tmp 30) (.tmp 32) rowTx rfl _ acc.length _ rfl (O2.out.alloc _) _ 1 (txs [t]) rfl (Src.rd Tryz.underlying64 _ 1 1 _ rfl (rd_lit rfl rfl) (txs_one _) (fun h => by cases h)) (by have := HACI.out; unfold maxLen; omega) (by have := HACI.out; omega) (by have := B2.out.lt; simp; omega) ?_; intro v' w3 hown3 hgrow hat hbel; have O3 := hid hown3; have B3 := hid ((B2.out.alloc _).below hbel (Nat.lt_succ_self _)); have X3 : Hid (Ext w w3) := hid ((Ext.new (X.trans (X2.out.below (Nat.le_refl _) X.size)) _).trans (hbel.mono (Nat.le_succ _))); clear hown3 hgrow hat hbel))
            go_roundw
            case rel => exact ⟨k + 1, acc ++ [t], r, t, by omega, by go_num, by rw [List.length_append]; simp; omega, HE, HRL.out, HTL.out, B3.out, by rw [txs_app, List.length_append]; exact O3.out, X3.out⟩
            case measure => simp [intOf]; omega
          · rw [Front.rds_bad hrd he] at e2
            simp only [List.append_nil] at e2
            have HE := hid (show R = ([], e) by rw [HR.out, e2]; simp [he])
            have h3 : ((e : Int) != 0) = true := by rw [bne_iff_ne]; omega
            have h4 : ((e : Int) == 0) = false := by rw [beq_eq_false_iff_ne]; omega
            clear CT hrd e2 HI hown B hs hl hj he HR
            go_wp2_with (go_at_call 161; refine HCT.out.mono ?_; intro e w2 h; obtain ⟨rfl, X2, _⟩ := h; have X2 := hid X2)
            go_returns
            exact ⟨none, 0, by rw [HE.out]; rfl, fun h => by rw [HE.out] at h; simp [txs] at h, X.trans (X2.out.below (Nat.le_refl _) X.size)⟩
        · obtain rfl : k = mm := by omega
          have e2 := HI.out
          rw [Nat.sub_self] at e2
          have hc0 := B.cell 0
          by_cases hs0 : s = []
          · subst hs0
            have HE := hid (show R = (acc, 0) by rw [HR.out, e2]; simp [Front.rds])
            clear e2 HI hown B hs hl HR
            go_wp2
            obtain ⟨A, cap, rfl, hrd, hA, _⟩ := Rd.owned HO.out
            go_returns
            exact ⟨A, cap, by rw [HE.out]; rfl, by rw [HE.out]; exact hrd, X⟩
          · have HE := hid (show R = ([], 1) by rw [HR.out, e2]; simp [Front.rds, hs0])
            obtain ⟨XX, hXX⟩ : ∃ XX : ByteArray, XX = ⟨s.toArray⟩ := ⟨_, rfl⟩
            have e1 : XX.toList.isEmpty = false := by
              rw [hXX, ByteArray.toList_mk]; simpa using hs0
            rw [← hXX] at hc0
            clear e2 HI hown B hs hl HR hs0 hXX
            go_wp2
            go_returns
            exact ⟨none, 0, by rw [HE.out]; rfl, fun h => by rw [HE.out] at h; simp [txs] at h, X⟩
end Go.Proofs.YthgnipangcmanaaGreat
end
section
namespace Go.Proofs.YthgnipangcmanaaGreat
open Go.RowKit Hy
set_option maxHeartbeats 1600000 in
theorem frontBytes_any (l : List (List UInt8)) (A : Option Addr) (n cap : Nat) (w : World) (hn : l.length = n) (hr : Rd w A (txs l)) (hnl : n ≤ 64) (hf : Front.fitB l = true) :
    Calls Tryz.prog 97 #[.slice A n cap] w fun e w' => e = .returned (.string ⟨(Front.bytes l).toArray⟩) ∧ Ext w w' := by
  rw [Front.bytes_eq]
  have HN := hid hn
  have HA := hid hr
  have HF := hid ((Front.fitB_iff l).1 hf)
  clear hr hn hf
  go_enter Tryz.func97, Tryz.ntmps97
  go_wp2
  go_loopw [3, 4, 5] (fun t c _ wr => ∃ (k : Nat) (E : List UInt8), k ≤ n ∧ c = .int .i64 k ∧ Hid (E = Front.enc [] (l.take k)) ∧ E.length ≤ 18 * k ∧ t = .string ⟨E.toArray⟩ ∧ Ext w wr) (fun _ c _ _ => n - (intOf c).toNat)
  case atStart => exact ⟨0, [], Nat.zero_le _, rfl, hid rfl, Nat.le_refl _, rfl, ext_refl _⟩
  case round =>
    obtain ⟨k, E, hk, rfl, HE, hE, rfl, X⟩ := hrel
    by_cases hlt : k < n
    · have hka : k < l.length := by rw [HN.out]; exact hlt
      obtain ⟨b1, o1, e1, l1, c1⟩ := HA.out.texts k hka
      subst e1
      have HX := hid (fun (wx : World) (hx : Ext w wx) => (hx.cell (p := ⟨b1, o1 + k, none⟩) l1).trans (c1 k hka))
      have HXm := hid (fun (wx : World) (hx : Ext w wx) (j : Nat) (hj : j < l.length) => (hx.cell (p := ⟨b1, o1 + j, none⟩) l1).trans (c1 j hj))
      have hx := HF.out l[k] (List.getElem_mem hka)
      obtain ⟨T, hT⟩ : ∃ T, T = (l.take k).getLastD [] := ⟨_, rfl⟩
      have HTl := hid (show T.length ≤ 16 by rw [hT]; exact Front.lastD_len _ fun s hs => HF.out s (List.mem_of_mem_take hs))
      have HS := hid (show Front.enc [] (l.take (k + 1)) = E ++ Front.one T l[k] by rw [List.take_succ_eq_append_getElem hka, Front.enc_snoc, HE.out, hT])
      have HTk : Hid (∀ j (hj : j < l.length), k = j + 1 → T = l[j]) := hid fun j hj e => by
        subst e
        rw [hT, List.take_succ_eq_append_getElem hj, Front.lastD_snoc]
      have HT0 : Hid (k = 0 → T = []) := hid fun e => by subst e; rw [hT]; rfl
      generalize l[k] = s at *
      obtain ⟨z, hz⟩ : ∃ z, z = Front.shr T s := ⟨_, rfl⟩
      have hzl := (Front.shr_le T s).2
      have HON := hid (Front.one_len T s hx)
      have h1 : Front.one T s = Vary.wr z ++ (Vary.wr (s.length - z) ++ s.drop z) := by rw [hz]; rfl
      rw [← hz] at hzl HON
      obtain ⟨S, hS⟩ : ∃ S : ByteArray, S = ⟨s.toArray⟩ := ⟨_, rfl⟩
      have hSz : S.size = s.length := by rw [hS, str_size]
      obtain ⟨y, hy⟩ : ∃ y : Nat, y = s.length - z := ⟨_, rfl⟩
      rw [← hy] at h1
      have hyI : (S.size : Int) - (z : Int) = (y : Int) := by omega
      obtain ⟨p1, hp1⟩ : ∃ p1 : ByteArray, p1 = ⟨(Vary.wr z).toArray⟩ := ⟨_, rfl⟩
      obtain ⟨p2, hp2⟩ : ∃ p2 : ByteArray, p2 = ⟨(Vary.wr y).toArray⟩ := ⟨_, rfl⟩
      obtain ⟨q, hq⟩ : ∃ q : ByteArray, q = ⟨(s.drop z).toArray⟩ := ⟨_, rfl⟩
      obtain ⟨EE, hEE⟩ : ∃ EE : ByteArray, EE = ⟨E.toArray⟩ := ⟨_, rfl⟩
      have G1 : Gives Tryz.prog 15 #[.int .u64 z] (.string p1) := fun wx => by rw [hp1]; exact varyBytes_any z wx (by omega)
      have G2 : Gives Tryz.prog 15 #[.int .u64 y] (.string p2) := fun wx => by rw [hp2]; exact varyBytes_any y wx (by omega)
      have hR := fun wx : World => run_from (P := Tryz.prog) (w := wx) Tryz.underlying9 S .i64 z (by omega)
      have h3 : S.data.toList = s := by rw [hS]
      rw [h3, ← hq] at hR
      have hql : q.size ≤ 16 := by rw [hq, str_size, List.length_drop]; omega
      have hp1l : p1.size ≤ 9 := by rw [hp1, str_size, Vary.wr_len]; have := Vary.beh_le8 z; omega
      have hp2l : p2.size ≤ 9 := by rw [hp2, str_size, Vary.wr_len]; have := Vary.beh_le8 y; omega
      have hEl : EE.size ≤ 18 * k := by rw [hEE, str_size]; exact hE
      have hO1 := HON.out
      have HNX := hid (show EE ++ (p1 ++ p2 ++ q) = ⟨(Front.enc [] (l.take (k + 1))).toArray⟩ by
        rw [HS.out, h1, hEE, hp1, hp2, hq, str_app, str_app, str_app]; simp)
      have HLX := hid (show (Front.enc [] (l.take (k + 1))).length ≤ 18 * (k + 1) by
        rw [HS.out, List.length_append]; omega)
      have hzI : (z : Int) ≤ 16 := by omega
      have hyB : (y : Int) ≤ 16 := by omega
      have hSI : (S.size : Int) ≤ 16 := by omega
      have HSS := hid hS
      have hHX : ∀ wx : World, Ext w wx → wx.cell? ⟨b1, o1 + k, none⟩ = some (.string S) := fun wx h => by rw [hS]; exact HX.out wx h
      have HHX := hid hHX
      have HZ := hid hz
      rw [← hEE]
      clear c1 HX HS HON h1 hz hzl hS hSz h3 hq hp1 hp2 hx hEE hO1 hy hHX
      by_cases hk0 : k = 0
      · subst hk0
        obtain rfl : z = 0 := by rw [HZ.out, HT0.out rfl, Front.shr_nil]
        have hy0 : (S.size : Int) = (y : Int) := by omega
        have G1 : Gives Tryz.prog 15 #[.int .u64 0] (.string p1) := G1
        have hR : ∀ wx : World, (Instr.slice 9 (.string S) (some (.int .i64 0)) none none).run Tryz.prog wx = .ok (.string q) wx := hR
        rw [← hy0] at G2
        clear HZ HT0 HTk HTl hT HXm hka hyI hy0
        have d2 : wr.cell? ⟨b1, o1, none⟩ = some (.string S) := HHX.out wr X
        have d3 := cell_regrown d2
        go_wp2_with fail
        refine wp_region_quiet_below (by kernel_rfl) (by kernel_rfl) ?_
        repeat (go_big_quiet_step (first | (go_at_call 15; first | with_reducible exact G1.quiet _ _ _ | with_reducible exact G2.quiet _ _ _)))
        refine wpQuiet_nil ?_
        intro w9 hw9
        obtain ⟨p, rfl⟩ := hw9
        go_wp2
        go_roundw
        case rel => exact ⟨0 + 1, _, by omega, by go_num, hid rfl, HLX.out, by rw [← HNX.out], X.then (ext_regrown _ p)⟩
        case measure => simp [intOf]; omega
      · obtain ⟨j, rfl⟩ : ∃ j, k = j + 1 := ⟨k - 1, by omega⟩
        have hj : j < l.length := by omega
        obtain ⟨TT, hTT⟩ : ∃ TT : ByteArray, TT = ⟨T.toArray⟩ := ⟨_, rfl⟩
        have hTz : TT.size ≤ 16 := by rw [hTT, str_size]; exact HTl.out
        have G0 : Gives Tryz.prog 132 #[.string TT, .string S] (.int .i64 z) := fun wx => by
          rw [HZ.out, hTT, HSS.out]; exact sharedOf_any ⟨T.toArray⟩ ⟨s.toArray⟩ wx (by rw [← hTT]; omega)
        have d1 : wr.cell? ⟨b1, o1 + j, none⟩ = some (.string TT) := by rw [hTT, HTk.out j hj rfl]; exact HXm.out wr X j hj
        have d2 := HHX.out wr X
        have d1r := cell_regrown d1
        have d2r := cell_regrown d2
        clear HZ HT0 HTk HTl hT HXm hka hj hTT hk0
        go_wp2_with fail
        refine wp_region_quiet_below (by kernel_rfl) (by kernel_rfl) ?_
        repeat (go_big_quiet_step (first | (go_at_call 132; exact G0.quiet _ _ _)))
        refine wpQuiet_nil ?_
        intro w8 hw8
        have X8 : Ext w w8 := by obtain ⟨p, rfl⟩ := hw8; exact X.then (ext_regrown _ p)
        clear hw8 d1 d2 d1r d2r X
        have X := X8
        have d2 := HHX.out w8 X
        have d3 := cell_regrown d2
        go_wp2_with fail
        refine wp_region_quiet_below (by kernel_rfl) (by kernel_rfl) ?_
        repeat (go_big_quiet_step (first | (go_at_call 15; first | with_reducible exact G1.quiet _ _ _ | with_reducible exact G2.quiet _ _ _)))
        refine wpQuiet_nil ?_
        intro w9 hw9
        obtain ⟨p, rfl⟩ := hw9
        go_wp2
        go_roundw
        case rel => exact ⟨j + 1 + 1, _, by omega, by go_num, hid rfl, HLX.out, by rw [← HNX.out], X.then (ext_regrown _ p)⟩
        case measure => simp [intOf]; omega
    · obtain rfl : k = n := by omega
      have HE2 := hid (show E = Front.enc [] l by rw [HE.out, List.take_of_length_le (by rw [HN.out]; exact Nat.le_refl _)])
      go_wp2
      go_returns
      exact ⟨by rw [← HE2.out]; rfl, X⟩
end Go.Proofs.YthgnipangcmanaaGreat
end
