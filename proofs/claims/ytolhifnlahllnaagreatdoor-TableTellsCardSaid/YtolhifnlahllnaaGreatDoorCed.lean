/- Cells: CellLess, Alone, CellCheck: walks. -/
import Derived.Test.YtolhifnlahllnaaGreatDoorCec
namespace Go.Proofs.YtolhifnlahllnaaGreatDoor
open Go.RowKit Hy
set_option maxHeartbeats 1600000 in
theorem cellLess_any (a b : Cel) (w : World) (hs : a.2.2.size ≤ 140737488355328) (ht : b.2.2.size ≤ 140737488355328) :
    Calls Tryz.prog 86 #[celV a, celV b] w fun e w' => e = .returned (.bool (Cel.less a b)) ∧ Ext w w' := by
  obtain ⟨k, n, s⟩ := a
  obtain ⟨k', n', s'⟩ := b
  have HT := hid (fun w => textLess_any s s' w hs ht)
  have E := hid (Ext.new (Ext.new (ext_refl w) (.cells #[.int .i64 k, .int .u64 (n : Int), .string s] 42)) (.cells #[.int .i64 k', .int .u64 (n' : Int), .string s'] 42))
  obtain ⟨L, hL⟩ : ∃ L, L = Cel.less (k, n, s) (k', n', s') := ⟨_, rfl⟩
  rw [← hL]
  have HL := hid (show L = if k = 0 ∧ k' ≠ 0 then true else if k' = 0 ∧ k ≠ 0 then false else if k ≠ k' then decide (k < k') else if n ≠ n' then decide (n < n') else Cel.tless s s' by rw [hL]; unfold Cel.less; rfl)
  clear hs ht hL
  by_cases h0 : k = 0
  · subst h0
    by_cases h1 : k' = 0
    · subst h1
      by_cases hn : n = n'
      · subst hn
        have HE := hid (show L = Cel.tless s s' by rw [HL.out]; simp)
        have e1 : ((n : Int) == (n : Int)) = true := by simp
        go_enter Tryz.func86, Tryz.ntmps86
        go_wp2_with (go_at_call 96; go_loud (refine (HT.out _).mono ?_; rintro e w10 ⟨rfl, x10⟩; have X10 := hid x10; clear x10))
        go_returns
        exact ⟨by rw [HE.out]; rfl, E.out.then X10.out⟩
      · have HE := hid (show L = decide (n < n') by rw [HL.out]; simp [hn])
        have e1 : ((n : Int) == (n' : Int)) = false := by rw [beq_eq_false_iff_ne]; omega
        have e2 : (n == n') = false := by rw [beq_eq_false_iff_ne]; omega
        clear hn
        go_enter Tryz.func86, Tryz.ntmps86
        go_wp2
        go_returns
        exact ⟨by rw [HE.out]; simp, E.out⟩
    · have HE := hid (show L = true by rw [HL.out, if_pos ⟨rfl, h1⟩])
      have e1 : (k' == 0) = false := by simpa using h1
      clear h1
      go_enter Tryz.func86, Tryz.ntmps86
      go_wp2
      go_returns
      exact ⟨by rw [HE.out]; rfl, E.out⟩
  · have e0 : (k == 0) = false := by simpa using h0
    by_cases h1 : k' = 0
    · subst h1
      have HE := hid (show L = false by rw [HL.out, if_neg (by simp [h0]), if_pos ⟨rfl, h0⟩])
      clear h0
      go_enter Tryz.func86, Tryz.ntmps86
      go_wp2
      go_returns
      exact ⟨by rw [HE.out]; rfl, E.out⟩
    · have e1 : (k' == 0) = false := by simpa using h1
      by_cases hk : k = k'
      · subst hk
        have e3 : (k == k) = true := by simp
        by_cases hn : n = n'
        · subst hn
          have HE := hid (show L = Cel.tless s s' by rw [HL.out]; simp [h0])
          have e2 : ((n : Int) == (n : Int)) = true := by simp
          clear h0 h1
          go_enter Tryz.func86, Tryz.ntmps86
          go_wp2_with (go_at_call 96; go_loud (refine (HT.out _).mono ?_; rintro e w10 ⟨rfl, x10⟩; have X10 := hid x10; clear x10))
          go_returns
          exact ⟨by rw [HE.out]; rfl, E.out.then X10.out⟩
        · have HE := hid (show L = decide (n < n') by rw [HL.out]; simp [h0, hn])
          have e2 : ((n : Int) == (n' : Int)) = false := by rw [beq_eq_false_iff_ne]; omega
          have e4 : (n == n') = false := by rw [beq_eq_false_iff_ne]; omega
          clear h0 h1 hn
          go_enter Tryz.func86, Tryz.ntmps86
          go_wp2
          go_returns
          exact ⟨by rw [HE.out]; simp, E.out⟩
      · have HE := hid (show L = decide (k < k') by rw [HL.out]; simp [h0, h1, hk])
        have e3 : (k == k') = false := by simpa using hk
        clear h0 h1 hk
        go_enter Tryz.func86, Tryz.ntmps86
        go_wp2
        go_returns
        exact ⟨by rw [HE.out]; rfl, E.out⟩
end Go.Proofs.YtolhifnlahllnaaGreatDoor
