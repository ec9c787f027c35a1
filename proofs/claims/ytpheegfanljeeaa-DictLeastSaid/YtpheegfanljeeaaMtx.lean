/- The document's ManyTexts: walk. -/
import Derived.Test.YtpheegfanljeeaaRows
import Derived.Test.YtpheegfanljeeaaFrp
import Derived.Test.YtpheegfanljeeaaTxt
namespace Go.Proofs.Ytpheegfanljeeaa
open Go.RowKit Hy
set_option maxHeartbeats 400000 in
theorem manyTexts_any (l : List (List UInt8)) (A : Option Addr) (n cap : Nat) (w : World) (hn : l.length = n) (hr : Rd w A (txs l)) (hnl : n ≤ 140737488355328) :
    Calls Try.prog 28 #[.slice A n cap] w fun e w' => e = .returned (.bool (!(decide (n ≤ 64) && Front.fitB l))) ∧ w = w' := by
  have HN := hid hn
  have HA := hid hr
  have HF := hid (Front.fitB_iff l)
  clear hr hn
  go_enter Try.func28, Try.ntmps28
  go_wp2
  go_loop [3] (fun c => ∃ k : Nat, k ≤ n ∧ c = .int .i64 k ∧ Hid (∀ i (h : i < l.length), i < k → l[i].length ≤ 16)) (fun c => n - (intOf c).toNat)
  case atStart => exact ⟨0, Nat.zero_le _, rfl, hid fun i h h2 => absurd h2 (Nat.not_lt_zero _)⟩
  case round =>
    obtain ⟨k, hk, rfl, HT⟩ := hrel
    by_cases hlt : k < n
    · have hka : k < l.length := by rw [HN.out]; exact hlt
      obtain ⟨b1, o1, e1, l1, c1⟩ := HA.out.texts k hka
      subst e1
      have d1 := c1 k hka
      obtain ⟨S, hS⟩ : ∃ S : ByteArray, S = ⟨l[k].toArray⟩ := ⟨_, rfl⟩
      have hz : S.size = l[k].length := by rw [hS, str_size]
      rw [← hS] at d1
      have HZ := hid hz
      clear c1 hS hz
      by_cases h16 : S.size ≤ 16
      · have HT2 : Hid (∀ i (h : i < l.length), i < k + 1 → l[i].length ≤ 16) := hid fun i h h2 => by
          rcases Nat.lt_or_ge i k with h3 | h3
          · exact HT.out i h h3
          · have : i = k := by omega
            subst this
            rw [← HZ.out]; exact h16
        have h16I : (S.size : Int) ≤ 16 := by omega
        clear HZ hka h16
        go_wp2
        go_round
        case rel => exact ⟨k + 1, by omega, by go_num, HT2⟩
        case measure => simp [intOf]; omega
      · have hf : Front.fitB l = false := by
          rw [← Bool.not_eq_true, HF.out]
          intro h
          have := h l[k] (List.getElem_mem hka)
          rw [← HZ.out] at this; omega
        have HFF := hid hf
        have h16I : ¬ (S.size : Int) ≤ 16 := by omega
        clear HZ hka h16 hf
        go_wp2
        go_returns
        exact ⟨by rw [HFF.out]; simp, rfl⟩
    · obtain rfl : k = n := by omega
      have hf : Front.fitB l = true := HF.out.2 fun s hs => by
        obtain ⟨i, hi, rfl⟩ := List.getElem_of_mem hs
        exact HT.out i hi (by rw [← HN.out]; exact hi)
      have HFF := hid hf
      clear hf
      by_cases h64 : k ≤ 64
      · have h64I : (k : Int) ≤ 64 := by omega
        have HD := hid (decide_eq_true h64)
        clear h64
        go_wp2
        go_returns
        exact ⟨by rw [HFF.out, HD.out]; simp [h64I], rfl⟩
      · have h64I : ¬ (k : Int) ≤ 64 := by omega
        have HD := hid (decide_eq_false h64)
        clear h64
        go_wp2
        go_returns
        exact ⟨by rw [HFF.out, HD.out]; simp, rfl⟩
end Go.Proofs.Ytpheegfanljeeaa
