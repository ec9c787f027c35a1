/- Front: slices.ContainsFunc, Write; the document's FrontBytes: walks. -/
import Derived.Test.YtgobnpogmghgkaaRows
import Derived.Test.YtgobnpogmghgkaaFra
import Derived.Test.YtgobnpogmghgkaaVob
namespace Go.Proofs.Ytgobnpogmghgkaa
open Go.RowKit Hy
set_option maxHeartbeats 400000 in
theorem indexFunc_any (l : List (List UInt8)) (A : Option Addr) (n cap : Nat) (w : World) (hn : l.length = n) (hr : Rd w A (txs l)) (hnl : n ≤ 140737488355328) :
    Calls Try.prog 47 #[.slice A n cap, .func (.func 36) #[] #[]] w fun e w' => (∃ r : Int, e = .returned (.int .i64 r) ∧ decide (0 ≤ r) = !Front.fitB l) ∧ w = w' := by
  have HN := hid hn
  have HA := hid hr
  have HF := hid (Front.fitB_iff l)
  clear hr hn
  go_enter Try.func47, Try.ntmps47
  go_wp2
  go_loop [5, 8] (fun _ c => ∃ k : Nat, k ≤ n ∧ c = .int .i64 k ∧ Hid (∀ i (h : i < l.length), i < k → l[i].length ≤ 16)) (fun _ c => n - (intOf c).toNat)
  case atStart => exact ⟨0, Nat.zero_le _, rfl, hid fun i h h2 => absurd h2 (Nat.not_lt_zero _)⟩
  case round =>
    obtain ⟨k, hk, rfl, HT⟩ := hrel
    by_cases hlt : k < n
    · have hka : k < l.length := by rw [HN.out]; exact hlt
      obtain ⟨b1, o1, e1, l1, c1⟩ := HA.out.texts k hka
      subst e1
      have d1 := c1 k hka
      obtain ⟨S, hS⟩ : ∃ S : ByteArray, S = ⟨l[k].toArray⟩ := ⟨_, rfl⟩
      have hz : S.size = l[k].length := by rw [hS, str_size]
      rw [← hS] at d1
      have HZ := hid hz
      clear c1 hS hz
      by_cases h16 : S.size ≤ 16
      · have HT2 : Hid (∀ i (h : i < l.length), i < k + 1 → l[i].length ≤ 16) := hid fun i h h2 => by
          rcases Nat.lt_or_ge i k with h3 | h3
          · exact HT.out i h h3
          · have : i = k := by omega
            subst this
            rw [← HZ.out]; exact h16
        have C : Hid (Calls Try.prog 36 #[.string S] w fun e w' => e = .returned (.bool false) ∧ w = w') := by
          have := long_any S w
          rw [decide_eq_false (by omega)] at this
          exact hid this
        clear HZ hka h16
        go_wp2_with (go_at_call 36; refine C.out.mono ?_; rintro e w2 ⟨rfl, rfl⟩)
        go_round
        case rel => exact ⟨k + 1, by omega, by go_num, HT2⟩
        case measure => simp [intOf]; omega
      · have hf : Front.fitB l = false := by
          rw [← Bool.not_eq_true, HF.out]
          intro h
          have := h l[k] (List.getElem_mem hka)
          rw [← HZ.out] at this; omega
        have HFF := hid hf
        have C : Hid (Calls Try.prog 36 #[.string S] w fun e w' => e = .returned (.bool true) ∧ w = w') := by
          have := long_any S w
          rw [decide_eq_true (by omega)] at this
          exact hid this
        clear HZ hka h16 hf
        go_wp2_with (go_at_call 36; refine C.out.mono ?_; rintro e w2 ⟨rfl, rfl⟩)
        go_returns
        exact ⟨⟨_, rfl, by rw [HFF.out]; simp⟩, rfl⟩
    · obtain rfl : k = n := by omega
      have hf : Front.fitB l = true := HF.out.2 fun s hs => by
        obtain ⟨i, hi, rfl⟩ := List.getElem_of_mem hs
        exact HT.out i hi (by rw [← HN.out]; exact hi)
      have HFF := hid hf
      clear hf
      go_wp2
      go_returns
      exact ⟨⟨_, rfl, by rw [HFF.out]; rfl⟩, rfl⟩
theorem containsFunc_any (l : List (List UInt8)) (A : Option Addr) (n cap : Nat) (w : World) (hn : l.length = n) (hr : Rd w A (txs l)) (hnl : n ≤ 140737488355328) :
    Calls Try.prog 35 #[.slice A n cap, .func (.func 36) #[] #[]] w fun e w' => e = .returned (.bool (!Front.fitB l)) ∧ w = w' := by
  have C := hid (indexFunc_any l A n cap w hn hr hnl)
  clear hn hr
  go_enter Try.func35, Try.ntmps35
  go_wp2_with (go_at_call 47; refine C.out.mono ?_; rintro e w2 ⟨⟨r, rfl, hr⟩, rfl⟩; have HR := hid hr; clear hr)
  go_returns
  exact ⟨by rw [← HR.out]; rfl, rfl⟩
set_option maxHeartbeats 400000 in
theorem fwrite_any (l : List (List UInt8)) (A : Option Addr) (n cap : Nat) (w : World) (hn : l.length = n) (hr : Rd w A (txs l)) (hnl : n ≤ 140737488355328) :
    Calls Try.prog 15 #[.slice A n cap] w fun e w' => e = .returned (.tuple #[.string ⟨(Front.wrt l).1.toArray⟩, .int .i64 ((Front.wrt l).2 : Nat)]) ∧ Ext w w' := by
  by_cases h64 : n ≤ 64
  · have C := hid (containsFunc_any l A n cap w hn hr hnl)
    by_cases hf : Front.fitB l = true
    · have HW := hid (Front.wrt_ok (by omega) hf)
      have CR := hid (raw_any l A n cap w hn hr h64 hf)
      rw [hf] at C
      have h64I : (n : Int) ≤ 64 := by omega
      clear hn hr hf h64 hnl
      go_enter Try.func15, Try.ntmps15
      go_wp2_with (first
        | (go_at_call 35; refine C.out.mono ?_; rintro e w2 ⟨rfl, rfl⟩)
        | (go_at_call 37; refine CR.out.mono ?_; rintro e w3 ⟨rfl, b3⟩))
      go_returns
      exact ⟨by rw [HW.out]; rfl, b3⟩
    · have HW := hid (Front.wrt_bad (l := l) (fun h => hf h.2))
      rw [Bool.not_eq_true] at hf
      rw [hf] at C
      have h64I : (n : Int) ≤ 64 := by omega
      clear hn hr hf h64 hnl
      go_enter Try.func15, Try.ntmps15
      go_wp2_with (go_at_call 35; refine C.out.mono ?_; rintro e w2 ⟨rfl, rfl⟩)
      go_returns
      exact ⟨by rw [HW.out]; rfl, ext_refl _⟩
  · have HW := hid (Front.wrt_bad (l := l) (fun h => h64 (by omega)))
    have h64I : (64 : Int) < (n : Int) := by omega
    clear hn hr h64 hnl
    go_enter Try.func15, Try.ntmps15
    go_wp2
    go_returns
    exact ⟨by rw [HW.out]; rfl, ext_refl _⟩
end Go.Proofs.Ytgobnpogmghgkaa
