/- Dict: many, Check: walks. -/
import Derived.Test.YtpheegfanljeeaaDcp
import Derived.Test.YtpheegfanljeeaaMtx
import Derived.Test.YtpheegfanljeeaaCec
namespace Hy.Dct
open Go
theorem bless (a b : T) : Op.bytesLess a b = decide (a < b) := by
  induction a generalizing b with
  | nil => cases b <;> simp [Op.bytesLess]
  | cons x a ih =>
    cases b with
    | nil => simp [Op.bytesLess]
    | cons y b =>
      rw [Front.less_cons, ih]
      by_cases h : x = y
      · subst h; simp
      · simp [List.cons_lt_cons_iff, h]
theorem nless (a b : T) : numsLess (a.map UInt8.toNat) (b.map UInt8.toNat) = decide (a < b) := by
  induction a generalizing b with
  | nil => cases b <;> simp [numsLess]
  | cons x a ih =>
    cases b with
    | nil => simp [numsLess]
    | cons y b =>
      simp only [List.map_cons, numsLess, ih]
      by_cases h : x = y
      · subst h; simp
      · have h2 : ¬ x.toNat = y.toNat := fun e => h (UInt8.toNat.inj e)
        simp [List.cons_lt_cons_iff, h, h2, UInt8.lt_iff_toNat_lt]
theorem tless_eq (a b : T) : Cel.tless ⟨a.toArray⟩ ⟨b.toArray⟩ = decide (a < b) := nless a b
theorem mny_eq (l : List T) : mny l = !(decide (l.length ≤ 64) && Front.fitB l) := by
  have h := Front.fitB_iff l
  cases hf : Front.fitB l with
  | true =>
    have h1 := h.1 hf
    have : l.any (fun s => decide (16 < s.length)) = false := by
      rw [List.any_eq_false]; intro s hs; have := h1 s hs; simp; omega
    unfold mny; rw [this]
    by_cases h6 : l.length ≤ 64
    · simp [h6]
    · simp [h6]; omega
  | false =>
    have : l.any (fun s => decide (16 < s.length)) = true := by
      rw [List.any_eq_true]
      apply Classical.byContradiction
      intro hn
      have : Front.fitB l = true := h.2 fun s hs => by
        rcases Nat.lt_or_ge 16 s.length with h2 | h2
        · exact absurd ⟨s, hs, decide_eq_true h2⟩ hn
        · exact h2
      rw [this] at hf; cases hf
    unfold mny; rw [this]; simp
end Hy.Dct
namespace Go.Proofs.Ytpheegfanljeeaa
open Go.RowKit Hy
theorem dLong_any (s : ByteArray) (w : World) : Calls Try.prog 87 #[.string s] w fun e w' => e = .returned (.bool (decide (16 < s.size))) ∧ w = w' := by
  have hI : decide ((16 : Int) < (s.size : Int)) = decide (16 < s.size) := by simp; omega
  have HI := hid hI
  clear hI
  go_enter Try.func87, Try.ntmps87
  go_wp2
  go_returns
  exact ⟨ret_bool HI.out, rfl⟩
set_option maxHeartbeats 400000 in
theorem dIndexFunc_any (l : List (List UInt8)) (A : Option Addr) (n cap : Nat) (w : World) (hn : l.length = n) (hr : Rd w A (txs l)) (hnl : n ≤ 140737488355328) :
    Calls Try.prog 99 #[.slice A n cap, .func (.func 87) #[] #[]] w fun e w' => (∃ r : Int, e = .returned (.int .i64 r) ∧ decide (0 ≤ r) = !Front.fitB l) ∧ w = w' := by
  have HN := hid hn
  have HA := hid hr
  have HF := hid (Front.fitB_iff l)
  clear hr hn
  go_enter Try.func99, Try.ntmps99
  go_wp2
  go_loop [5, 8] (fun _ c => ∃ k : Nat, k ≤ n ∧ c = .int .i64 k ∧ Hid (∀ i (h : i < l.length), i < k → l[i].length ≤ 16)) (fun _ c => n - (intOf c).toNat)
  case atStart => exact ⟨0, Nat.zero_le _, rfl, hid fun i h h2 => absurd h2 (Nat.not_lt_zero _)⟩
  case round =>
    obtain ⟨k, hk, rfl, HT⟩ := hrel
    by_cases hlt : k < n
    · have hka : k < l.length := by rw [HN.out]; exact hlt
      obtain ⟨b1, o1, e1, l1, c1⟩ := HA.out.texts k hka
      subst e1
      have d1 := c1 k hka
      obtain ⟨S, hS⟩ : ∃ S : ByteArray, S = ⟨l[k].toArray⟩ := ⟨_, rfl⟩
      have hz : S.size = l[k].length := by rw [hS, str_size]
      rw [← hS] at d1
      have HZ := hid hz
      clear c1 hS hz
      by_cases h16 : S.size ≤ 16
      · have HT2 : Hid (∀ i (h : i < l.length), i < k + 1 → l[i].length ≤ 16) := hid fun i h h2 => by
          rcases Nat.lt_or_ge i k with h3 | h3
          · exact HT.out i h h3
          · have : i = k := by omega
            subst this
            rw [← HZ.out]; exact h16
        have C : Hid (Calls Try.prog 87 #[.string S] w fun e w' => e = .returned (.bool false) ∧ w = w') := by
          have := dLong_any S w
          rw [decide_eq_false (by omega)] at this
          exact hid this
        clear HZ hka h16
        go_wp2_with (go_at_call 87; refine C.out.mono ?_; rintro e w2 ⟨rfl, rfl⟩)
        go_round
        case rel => exact ⟨k + 1, by omega, by go_num, HT2⟩
        case measure => simp [intOf]; omega
      · have hf : Front.fitB l = false := by
          rw [← Bool.not_eq_true, HF.out]
          intro h
          have := h l[k] (List.getElem_mem hka)
          rw [← HZ.out] at this; omega
        have HFF := hid hf
        have C : Hid (Calls Try.prog 87 #[.string S] w fun e w' => e = .returned (.bool true) ∧ w = w') := by
          have := dLong_any S w
          rw [decide_eq_true (by omega)] at this
          exact hid this
        clear HZ hka h16 hf
        go_wp2_with (go_at_call 87; refine C.out.mono ?_; rintro e w2 ⟨rfl, rfl⟩)
        go_returns
        exact ⟨⟨_, rfl, by rw [HFF.out]; simp⟩, rfl⟩
    · obtain rfl : k = n := by omega
      have hf : Front.fitB l = true := HF.out.2 fun s hs => by
        obtain ⟨i, hi, rfl⟩ := List.getElem_of_mem hs
        exact HT.out i hi (by rw [← HN.out]; exact hi)
      have HFF := hid hf
      clear hf
      go_wp2
      go_returns
      exact ⟨⟨_, rfl, by rw [HFF.out]; rfl⟩, rfl⟩
theorem dContainsFunc_any (l : List (List UInt8)) (A : Option Addr) (n cap : Nat) (w : World) (hn : l.length = n) (hr : Rd w A (txs l)) (hnl : n ≤ 140737488355328) :
    Calls Try.prog 86 #[.slice A n cap, .func (.func 87) #[] #[]] w fun e w' => e = .returned (.bool (!Front.fitB l)) ∧ w = w' := by
  have C := hid (dIndexFunc_any l A n cap w hn hr hnl)
  clear hn hr
  go_enter Try.func86, Try.ntmps86
  go_wp2_with (go_at_call 99; refine C.out.mono ?_; rintro e w2 ⟨⟨r, rfl, hr⟩, rfl⟩; have HR := hid hr; clear hr)
  go_returns
  exact ⟨by rw [← HR.out]; rfl, rfl⟩
theorem dMany_any (l : List (List UInt8)) (A : Option Addr) (n cap : Nat) (w : World) (hn : l.length = n) (hr : Rd w A (txs l)) (hnl : n ≤ 140737488355328) :
    Calls Try.prog 57 #[.slice A n cap] w fun e w' => e = .returned (.bool (Dct.mny l)) ∧ w = w' := by
  have C := hid (dContainsFunc_any l A n cap w hn hr hnl)
  have HM := hid (Dct.mny_eq l)
  rw [hn] at HM
  rw [HM.out]
  by_cases h64 : n ≤ 64
  · have h64I : (n : Int) ≤ 64 := by omega
    rw [decide_eq_true h64]
    clear hn hr hnl HM h64
    generalize Front.fitB l = f at *
    go_enter Try.func57, Try.ntmps57
    go_wp2_with fail
    refine Calls.mono C.out ?_
    rintro e _ ⟨rfl, rfl⟩
    go_wp2
    go_returns
    exact ⟨by simp; intro h; omega, rfl⟩
  · have h64I : (64 : Int) < (n : Int) := by omega
    rw [decide_eq_false h64]
    clear hn hr hnl HM h64 C
    go_enter Try.func57, Try.ntmps57
    go_wp2
    go_returns
    exact ⟨rfl, rfl⟩
set_option maxHeartbeats 800000 in
theorem dCheck_any (b : List (List UInt8)) (A : Option Addr) (n cap : Nat) (w : World) (hn : b.length = n) (hr : Rd w A (txs b)) (hnl : n ≤ 140737488355328) :
    Calls Try.prog 32 #[.slice A n cap] w fun e w' => e = .returned (.int .i64 (Dct.chk b : Nat)) ∧ Ext w w' := by
  have C := hid (dMany_any b A n cap w hn hr hnl)
  have hnI : (n : Int) ≤ 140737488355328 := by omega
  by_cases hm : Dct.mny b = true
  · rw [hm] at C
    rw [Dct.chk_many hm]
    clear hn hr hnl hm
    go_enter Try.func32, Try.ntmps32
    go_wp2_with fail
    refine Calls.mono C.out ?_
    rintro e _ ⟨rfl, rfl⟩
    go_wp2
    go_returns
    exact ⟨rfl, ext_refl _⟩
  · rw [Bool.not_eq_true] at hm
    rw [hm] at C
    have H1 := hid (Dct.chk_ok hm)
    have H2 := hid (Dct.chk_state hm)
    have HN := hid hn
    have HR := hid hr
    clear hn hr hnl hm
    generalize Dct.chk b = r at *
    go_enter Try.func32, Try.ntmps32
    go_wp2_with fail
    refine Calls.mono C.out ?_
    rintro e _ ⟨rfl, rfl⟩
    go_wp2
    go_loopw [3] (fun c wr => ∃ k : Nat, (k ≤ n ∨ k = 0) ∧ c = .int .i64 ((k : Int) + 1) ∧ Hid (Dct.asc (b.take (k + 1)) = true) ∧ Ext w wr) (fun c _ => n + 1 - (intOf c).toNat)
    case atStart => exact ⟨0, .inr rfl, rfl, hid (by cases b <;> rfl), ext_refl _⟩
    case round =>
      obtain ⟨k, hk, rfl, HA, X⟩ := hrel
      by_cases hlt : k + 1 < n
      · have hltI : (k : Int) + 1 < (n : Int) := by omega
        have hk1 : k + 1 < b.length := by rw [HN.out]; exact hlt
        obtain ⟨b1, o1, e1, l1, c1⟩ := (HR.out.keep X).texts 0 (by omega)
        subst e1
        have d0 := c1 k (by omega)
        have d1 := c1 (k + 1) hk1
        have HT := hid (Dct.asc_take b k hk1 HA.out)
        have HB := hid (Dct.bless b[k] b[k + 1])
        have HF := hid (Dct.asc_false_take b (k + 2))
        obtain ⟨S0, hS0⟩ : ∃ S : ByteArray, S = ⟨b[k].toArray⟩ := ⟨_, rfl⟩
        obtain ⟨S1, hS1⟩ : ∃ S : ByteArray, S = ⟨b[k + 1].toArray⟩ := ⟨_, rfl⟩
        have e0 : S0.toList = b[k] := by rw [hS0, ByteArray.toList_mk]
        have e1 : S1.toList = b[k + 1] := by rw [hS1, ByteArray.toList_mk]
        rw [← e0, ← e1] at HB
        rw [← e0, ← e1] at HT
        rw [← hS0] at d0
        rw [← hS1] at d1
        have hkI : (k : Int) ≤ 140737488355328 := by omega
        have hsub : (k : Int) + 1 - 1 = (k : Int) := by omega
        have hk11 : ((k + 1 : Nat) : Int) = (k : Int) + 1 := by omega
        clear c1 hS0 hS1 e0 e1
        by_cases hl : S0.toList < S1.toList
        · rw [decide_eq_true hl] at HT HB
          have hb := HB.out
          clear hl
          go_wp2_with fail
          go_quiet (fail)
          go_wp2
          go_roundw
          case rel => exact ⟨k + 1, by omega, by go_num, HT, X.draws _⟩
          case measure => simp [intOf] <;> omega
        · rw [decide_eq_false hl] at HT HB
          have hb := HB.out
          have HRR := hid (H2.out (HF.out HT.out))
          clear hl
          go_wp2_with fail
          go_quiet (fail)
          go_wp2
          go_returns
          exact ⟨by rw [HRR.out]; rfl, X.draws _⟩
      · have hltI : ¬ (k : Int) + 1 < (n : Int) := by omega
        have ht : b.take (k + 1) = b := List.take_of_length_le (by rw [HN.out]; omega)
        have HRR := hid (H1.out (by have := HA.out; rw [ht] at this; exact this))
        clear ht hlt
        go_wp2
        go_returns
        exact ⟨by rw [HRR.out]; rfl, X⟩
end Go.Proofs.Ytpheegfanljeeaa
