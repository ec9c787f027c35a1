/- Front: Shared; the document's SharedOf, ManyTexts: walks. -/
import Derived.Test.YtgobnpogmghgkaaRows
import Derived.Test.YtgobnpogmghgkaaFrp
import Derived.Test.YtgobnpogmghgkaaTxt
namespace Go.Proofs.Ytgobnpogmghgkaa
open Go.RowKit Hy
set_option maxHeartbeats 800000 in
theorem shared_any (a b : ByteArray) (w : World) (ha : a.size ≤ 9223372036854775806) :
    Calls Try.prog 19 #[.string a, .string b] w fun e w' => e = .returned (.int .i64 (Front.shr a.data.toList b.data.toList)) ∧ Ext w w' := by
  have la : a.data.toList.length = a.size := Array.length_toList
  have lb : b.data.toList.length = b.size := Array.length_toList
  obtain ⟨z, hz⟩ : ∃ z, z = Front.shr a.data.toList b.data.toList := ⟨_, rfl⟩
  rw [← hz]
  have HSt := hid (Front.shr_stop a.data.toList b.data.toList)
  have HM := hid (Front.shr_more a.data.toList b.data.toList)
  have HZ := hid hz
  have HLA := hid la
  have HLB := hid lb
  have IA := hid (fun k (h : k < a.data.toList.length) (wx : World) => run_ix (P := Try.prog) (w := wx) Try.underlying9 a .i64 k _ (List.getElem?_eq_getElem h))
  have IB := hid (fun k (h : k < b.data.toList.length) (wx : World) => run_ix (P := Try.prog) (w := wx) Try.underlying9 b .i64 k _ (List.getElem?_eq_getElem h))
  clear hz la lb
  go_enter Try.func19, Try.ntmps19
  go_wp2
  go_loopw [5] (fun c wr => ∃ k : Nat, k ≤ a.size ∧ k ≤ b.size ∧ c = .int .i64 k ∧ Hid (a.data.toList.take k = b.data.toList.take k) ∧ Ext w wr) (fun c _ => a.size - (intOf c).toNat)
  case atStart => exact ⟨0, Nat.zero_le _, Nat.zero_le _, rfl, hid rfl, ext_refl _⟩
  case round =>
    obtain ⟨k, hk1, hk2, rfl, HT, X⟩ := hrel
    by_cases h1 : k < a.size
    · by_cases h2 : k < b.size
      · have ka : k < a.data.toList.length := by rw [HLA.out]; exact h1
        have kb : k < b.data.toList.length := by rw [HLB.out]; exact h2
        have i1 := IA.out k ka
        have i2 := IB.out k kb
        have HMk := hid (HM.out k HT.out ka kb)
        have HSk : Hid (¬ a.data.toList[k] = b.data.toList[k] → _) := hid (fun h => HSt.out k HT.out (Nat.le_of_lt ka) (Nat.le_of_lt kb) (fun _ _ => h))
        generalize a.data.toList[k] = x at *
        generalize b.data.toList[k] = y at *
        have d1 : decide (k < a.size) = true := decide_eq_true h1
        have d2 : decide (k < b.size) = true := decide_eq_true h2
        have hxb := x.toNat_lt
        have hyb := y.toNat_lt
        have hxI : (x.toNat : Int) ≤ 255 := by omega
        have hyI : (y.toNat : Int) ≤ 255 := by omega
        clear hxb hyb ka kb
        by_cases hxy : x = y
        · have HM2 := hid (HMk.out hxy)
          subst hxy
          clear HMk HSk
          go_wp2_with fail
          go_quiet (fail)
          go_wp2
          go_roundw
          case rel => exact ⟨k + 1, by omega, by omega, by go_num, HM2, X.draws _⟩
          case measure => simp [intOf]; omega
        · have HS2 := hid (HSk.out hxy)
          have e1 : (x.toNat == y.toNat) = false := by rw [beq_eq_false_iff_ne]; exact fun h => hxy (UInt8.toNat.inj h)
          have e2 : ((x.toNat : Int) == (y.toNat : Int)) = false := by rw [beq_eq_false_iff_ne]; exact fun h => hxy (UInt8.toNat.inj (by omega))
          clear HMk HSk hxy
          go_wp2_with fail
          go_quiet (fail)
          go_wp2
          go_returns
          exact ⟨by rw [HZ.out, HS2.out]; rfl, X.draws _⟩
      · have HS2 := hid (HSt.out k HT.out (by rw [HLA.out]; omega) (by rw [HLB.out]; omega) (fun _ hb => absurd hb (by rw [HLB.out]; exact h2)))
        have d1 : decide (k < a.size) = true := decide_eq_true h1
        have d2 : decide (k < b.size) = false := decide_eq_false h2
        go_wp2_with fail
        go_quiet (fail)
        go_wp2
        go_returns
        exact ⟨by rw [HZ.out, HS2.out]; rfl, X.draws _⟩
    · have HS2 := hid (HSt.out k HT.out (by rw [HLA.out]; omega) (by rw [HLB.out]; omega) (fun ha _ => absurd ha (by rw [HLA.out]; exact h1)))
      have d1 : decide (k < a.size) = false := decide_eq_false h1
      go_wp2_with fail
      go_quiet (fail)
      go_wp2
      go_returns
      exact ⟨by rw [HZ.out, HS2.out]; rfl, X.draws _⟩
set_option maxHeartbeats 800000 in
theorem sharedOf_any (a b : ByteArray) (w : World) (ha : a.size ≤ 9223372036854775806) :
    Calls Try.prog 20 #[.string a, .string b] w fun e w' => e = .returned (.int .i64 (Front.shr a.data.toList b.data.toList)) ∧ Ext w w' := by
  have la : a.data.toList.length = a.size := Array.length_toList
  have lb : b.data.toList.length = b.size := Array.length_toList
  obtain ⟨z, hz⟩ : ∃ z, z = Front.shr a.data.toList b.data.toList := ⟨_, rfl⟩
  have hle := Front.shr_le a.data.toList b.data.toList
  have hif := Front.shr_iff a.data.toList b.data.toList
  rw [← hz, la, lb] at hle
  rw [← hz, la, lb] at hif
  rw [← hz]
  have HIF := hid hif
  have IA := hid (fun k (h : k ≤ a.size) (wx : World) => run_to (P := Try.prog) (w := wx) Try.underlying9 a .i64 k h)
  have IB := hid (fun k (h : k ≤ b.size) (wx : World) => run_to (P := Try.prog) (w := wx) Try.underlying9 b .i64 k h)
  obtain ⟨z1, z2⟩ := hle
  clear hz la lb hif
  go_enter Try.func20, Try.ntmps20
  go_wp2
  go_loopw [5] (fun c wr => ∃ k : Nat, k ≤ a.size ∧ z ≤ k ∧ c = .int .i64 k ∧ Ext w wr) (fun c _ => (intOf c).toNat)
  case atStart => exact ⟨a.size, Nat.le_refl _, z1, rfl, ext_refl _⟩
  case round =>
    obtain ⟨k, hk1, hk2, rfl, X⟩ := hrel
    by_cases h1 : b.size < k
    · have d1 : decide (b.size < k) = true := decide_eq_true h1
      have hk0 : (1 : Int) ≤ (k : Int) := by omega
      go_wp2_with fail
      go_quiet (fail)
      go_wp2
      go_roundw
      case rel => exact ⟨k - 1, by omega, by omega, by go_num, X.draws _⟩
      case measure => simp [intOf]; omega
    · have d1 : decide (b.size < k) = false := decide_eq_false h1
      have i1 := IA.out k hk1
      have i2 := IB.out k (by omega)
      have hI := HIF.out k hk1 (by omega)
      obtain ⟨S, hS⟩ : ∃ S : ByteArray, S = ⟨(a.data.toList.take k).toArray⟩ := ⟨_, rfl⟩
      obtain ⟨T, hT⟩ : ∃ T : ByteArray, T = ⟨(b.data.toList.take k).toArray⟩ := ⟨_, rfl⟩
      rw [← hS] at i1
      rw [← hT] at i2
      by_cases h2 : k ≤ z
      · have e1 : (S.toList == T.toList) = true := by rw [hS, hT, ByteArray.toList_mk, ByteArray.toList_mk, hI.1 h2]; simp
        obtain rfl : k = z := by omega
        clear hI hS hT h2
        go_wp2_with fail
        go_quiet (fail)
        go_wp2
        go_returns
        exact ⟨rfl, X.draws _⟩
      · have e1 : (S.toList == T.toList) = false := by rw [hS, hT, ByteArray.toList_mk, ByteArray.toList_mk, beq_eq_false_iff_ne]; exact fun h => h2 (hI.2 h)
        have hk0 : (1 : Int) ≤ (k : Int) := by omega
        clear hI hS hT
        go_wp2_with fail
        go_quiet (fail)
        go_wp2
        go_roundw
        case rel => exact ⟨k - 1, by omega, by omega, by go_num, X.draws _⟩
        case measure => simp [intOf]; omega
set_option maxHeartbeats 400000 in
theorem manyTexts_any (l : List (List UInt8)) (A : Option Addr) (n cap : Nat) (w : World) (hn : l.length = n) (hr : Rd w A (txs l)) (hnl : n ≤ 140737488355328) :
    Calls Try.prog 16 #[.slice A n cap] w fun e w' => e = .returned (.bool (!(decide (n ≤ 64) && Front.fitB l))) ∧ w = w' := by
  have HN := hid hn
  have HA := hid hr
  have HF := hid (Front.fitB_iff l)
  clear hr hn
  go_enter Try.func16, Try.ntmps16
  go_wp2
  go_loop [3] (fun c => ∃ k : Nat, k ≤ n ∧ c = .int .i64 k ∧ Hid (∀ i (h : i < l.length), i < k → l[i].length ≤ 16)) (fun c => n - (intOf c).toNat)
  case atStart => exact ⟨0, Nat.zero_le _, rfl, hid fun i h h2 => absurd h2 (Nat.not_lt_zero _)⟩
  case round =>
    obtain ⟨k, hk, rfl, HT⟩ := hrel
    by_cases hlt : k < n
    · have hka : k < l.length := by rw [HN.out]; exact hlt
      obtain ⟨b1, o1, e1, l1, c1⟩ := HA.out.texts k hka
      subst e1
      have d1 := c1 k hka
      obtain ⟨S, hS⟩ : ∃ S : ByteArray, S = ⟨l[k].toArray⟩ := ⟨_, rfl⟩
      have hz : S.size = l[k].length := by rw [hS, str_size]
      rw [← hS] at d1
      have HZ := hid hz
      clear c1 hS hz
      by_cases h16 : S.size ≤ 16
      · have HT2 : Hid (∀ i (h : i < l.length), i < k + 1 → l[i].length ≤ 16) := hid fun i h h2 => by
          rcases Nat.lt_or_ge i k with h3 | h3
          · exact HT.out i h h3
          · have : i = k := by omega
            subst this
            rw [← HZ.out]; exact h16
        have h16I : (S.size : Int) ≤ 16 := by omega
        clear HZ hka h16
        go_wp2
        go_round
        case rel => exact ⟨k + 1, by omega, by go_num, HT2⟩
        case measure => simp [intOf]; omega
      · have hf : Front.fitB l = false := by
          rw [← Bool.not_eq_true, HF.out]
          intro h
          have := h l[k] (List.getElem_mem hka)
          rw [← HZ.out] at this; omega
        have HFF := hid hf
        have h16I : ¬ (S.size : Int) ≤ 16 := by omega
        clear HZ hka h16 hf
        go_wp2
        go_returns
        exact ⟨by rw [HFF.out]; simp, rfl⟩
    · obtain rfl : k = n := by omega
      have hf : Front.fitB l = true := HF.out.2 fun s hs => by
        obtain ⟨i, hi, rfl⟩ := List.getElem_of_mem hs
        exact HT.out i hi (by rw [← HN.out]; exact hi)
      have HFF := hid hf
      clear hf
      by_cases h64 : k ≤ 64
      · have h64I : (k : Int) ≤ 64 := by omega
        have HD := hid (decide_eq_true h64)
        clear h64
        go_wp2
        go_returns
        exact ⟨by rw [HFF.out, HD.out]; simp [h64I], rfl⟩
      · have h64I : ¬ (k : Int) ≤ 64 := by omega
        have HD := hid (decide_eq_false h64)
        clear h64
        go_wp2
        go_returns
        exact ⟨by rw [HFF.out, HD.out]; simp, rfl⟩
end Go.Proofs.Ytgobnpogmghgkaa
