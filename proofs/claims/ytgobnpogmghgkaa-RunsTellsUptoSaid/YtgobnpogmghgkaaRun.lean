/- Runs: Expand, At: walks. -/
import Derived.Test.YtgobnpogmghgkaaRum
import Derived.Test.YtgobnpogmghgkaaRue
namespace Hy.Runs
theorem chk_zero (l : List Run) : ∀ (p : Option Nat) (s : Int), chk p s l = 0 → s ≤ 64 → (∀ a ∈ l, 1 ≤ a.2 ∧ a.2 ≤ 64) ∧ s + (unrun l).length ≤ 64 ∧ l.length ≤ (unrun l).length := by
  induction l with
  | nil => intro p s _ hs; exact ⟨fun a h => (by cases h), by simpa [unrun] using hs, by simp⟩
  | cons a l ih =>
    obtain ⟨v, n⟩ := a
    intro p s h hs
    simp only [chk] at h
    split at h
    · cases h
    · split at h
      · cases h
      · split at h
        · cases h
        · rename_i h1 h2 h3
          obtain ⟨i1, i2, i3⟩ := ih _ _ h (by omega)
          have e : (unrun ((v, n) :: l)).length = n.toNat + (unrun l).length := by simp [unrun]
          refine ⟨fun a ha => ?_, by rw [e]; omega, by rw [e, List.length_cons]; omega⟩
          rcases List.mem_cons.1 ha with rfl | ha
          · exact ⟨by omega, by omega⟩
          · exact i1 a ha
@[irreducible] def ex (l : List Run) : List Nat := if chk none 0 l = 0 then unrun l else []
theorem ex_ok (l : List Run) (h : chk none 0 l = 0) : ex l = unrun l := by unfold ex; rw [if_pos h]
theorem ex_no (l : List Run) (h : chk none 0 l ≠ 0) : ex l = [] := by unfold ex; rw [if_neg h]
/-- what At answers: the number, and the error -/
@[irreducible] def att (l : List Run) (t : Int) : Nat × Nat :=
  if chk none 0 l ≠ 0 then (0, chk none 0 l) else if t < 0 then (0, 3) else match (unrun l)[t.toNat]? with | some v => (v, 0) | none => (0, 3)
theorem unrun_at (l : List Run) (k : Nat) (h : k < l.length) (t : Nat) (h1 : (unrun (l.take k)).length ≤ t) (h2 : t < (unrun (l.take k)).length + l[k].2.toNat) : (unrun l)[t]? = some l[k].1 := by
  have e : unrun l = unrun (l.take k) ++ (List.replicate l[k].2.toNat l[k].1 ++ unrun (l.drop (k + 1))) := by
    calc unrun l = unrun (l.take k ++ l.drop k) := by rw [List.take_append_drop]
      _ = _ := by rw [unrun_app, List.drop_eq_getElem_cons h]; rfl
  rw [e, List.getElem?_append_right h1, List.getElem?_append_left (by rw [List.length_replicate]; omega), List.getElem?_replicate_of_lt (by omega)]
end Hy.Runs
namespace Go.Proofs.Ytgobnpogmghgkaa
open Go.RowKit Hy
theorem chk_lt (l : List Runs.Run) : ∀ (p : Option Nat) (s : Int), Runs.chk p s l ≤ 6 := by
  induction l with
  | nil => intro p s; simp [Runs.chk]
  | cons a l ih =>
    obtain ⟨v, n⟩ := a
    intro p s
    simp only [Runs.chk]
    split
    · omega
    · split
      · omega
      · split
        · omega
        · exact ih _ _
theorem expand_any (l : List Runs.Run) (A : Option Addr) (n cap : Nat) (w : World) (hn : l.length = n) (hr : Rd w A (rws l)) (hnl : n ≤ 140737488355328) :
    Calls Try.prog 30 #[.slice A n cap] w fun e w' => ∃ B c, e = .returned (.tuple #[.slice B (Runs.ex l).length c, .int .i64 (Runs.chk none 0 l : Nat)]) ∧ Rd w' B (u64s (Runs.ex l)) ∧ Ext w w' := by
  have H1 := hid (check_any l A n cap w hn hr hnl)
  have HC := hid (chk_lt l none 0)
  by_cases h : Runs.chk none 0 l = 0
  · obtain ⟨z1, z2, z3⟩ := Runs.chk_zero l none 0 h (by omega)
    have H2 := hid (fun w' (hx : Ext w w') => rawExpand_any l A n cap w' hn (hr.keep hx) (by omega) (fun a ha => (z1 a ha).1) (by omega))
    rw [Runs.ex_ok l h]
    rw [h] at H1 ⊢
    clear hn hr hnl z1 z2 z3 h
    go_enter Try.func30, Try.ntmps30
    go_wp2_with (first
      | (go_at_call 28; refine H1.out.mono ?_; rintro e w1 ⟨rfl, hx⟩; have HX := hid hx; clear hx)
      | (go_at_call 45; refine (H2.out _ HX.out).mono ?_; rintro e w2 ⟨B, c, rfl, h1, h2⟩; have HA := hid h1; have HB := hid h2; clear h1 h2))
    go_returns
    exact ⟨B, c, rfl, HA.out, HX.out.then HB.out⟩
  · rw [Runs.ex_no l h]
    obtain ⟨R, hR⟩ : ∃ R, R = Runs.chk none 0 l := ⟨_, rfl⟩
    rw [← hR] at H1 HC h ⊢
    have hb := HC.out
    have h1 : 1 ≤ R := by omega
    have hI : 1 ≤ (R : Int) ∧ (R : Int) ≤ 6 := by omega
    have e1 : ((R : Int) == 0) = false := by rw [beq_eq_false_iff_ne]; omega
    have e2 : ((R : Int) != 0) = true := by simp; omega
    clear hn hr hnl h hR hb h1
    go_enter Try.func30, Try.ntmps30
    go_wp2_with (go_at_call 28; refine H1.out.mono ?_; rintro e w1 ⟨rfl, hx⟩; have HX := hid hx; clear hx)
    go_returns
    exact ⟨none, 0, rfl, fun h => absurd h (by simp [u64s]), HX.out⟩
set_option maxHeartbeats 1600000 in
theorem at_any (l : List Runs.Run) (A : Option Addr) (n cap : Nat) (t : Int) (w : World) (hn : l.length = n) (hr : Rd w A (rws l)) (hnl : n ≤ 140737488355328) (ht0 : -9223372036854775808 ≤ t) (ht1 : t ≤ 9223372036854775807) :
    Calls Try.prog 31 #[.slice A n cap, .int .i64 t] w fun e w' => e = .returned (.tuple #[.int .u64 ((Runs.att l t).1 : Nat), .int .i64 ((Runs.att l t).2 : Nat)]) ∧ Ext w w' := by
  have H1 := hid (check_any l A n cap w hn hr hnl)
  have HC := hid (chk_lt l none 0)
  by_cases h : Runs.chk none 0 l = 0
  · obtain ⟨z1, z2, z3⟩ := Runs.chk_zero l none 0 h (by omega)
    by_cases h0 : t < 0
    · have e : Runs.att l t = (0, 3) := by unfold Runs.att; rw [if_neg (by simp [h]), if_pos h0]
      rw [e]
      rw [h] at H1
      clear hn hr hnl z1 z2 z3 h e
      go_enter Try.func31, Try.ntmps31
      go_wp2_with (go_at_call 28; refine H1.out.mono ?_; rintro e w1 ⟨rfl, hx⟩; have HX := hid hx; clear hx)
      go_returns
      exact ⟨rfl, HX.out⟩
    · obtain ⟨T, rfl⟩ : ∃ T : Nat, t = (T : Int) := ⟨t.toNat, by omega⟩
      obtain ⟨V, hV⟩ : ∃ V, V = Runs.att l (T : Int) := ⟨_, rfl⟩
      have HV := hid (show V = (match (Runs.unrun l)[T]? with | some v => (v, 0) | none => (0, 3)) by rw [hV]; unfold Runs.att; rw [if_neg (by simp [h]), if_neg h0]; rfl)
      have HU := hid (Runs.unrun_at l)
      have HP := hid z1
      have HT := hid z2
      have HN := hid hn
      have HA := hid hr
      have hnI : (n : Int) ≤ 64 := by omega
      rw [← hV]
      rw [h] at H1
      clear hn hr hnl z1 z2 z3 h h0 hV ht0
      go_enter Try.func31, Try.ntmps31
      go_wp2_with (go_at_call 28; refine H1.out.mono ?_; rintro e w1 ⟨rfl, hx⟩; have HX := hid hx; clear hx)
      go_loopw [1, 18] (fun a c wr => ∃ (k d : Nat), k ≤ n ∧ c = .int .i64 k ∧ a = .int .i64 d ∧ Hid (T = (Runs.unrun (l.take k)).length + d) ∧ Ext w wr) (fun _ c _ => n - (intOf c).toNat)
      case atStart => exact ⟨0, T, Nat.zero_le _, rfl, rfl, hid (by simp [Runs.unrun]), HX.out⟩
      case round =>
        clear HX
        obtain ⟨k, d, hk, rfl, rfl, HD, X⟩ := hrel
        have hdI : (d : Int) ≤ 9223372036854775807 := by have := HD.out; omega
        by_cases hlt : k < n
        · have hka : k < l.length := by rw [HN.out]; exact hlt
          obtain ⟨b1, o1, e1, l1, c1⟩ := HA.out.runs k hka
          subst e1
          have dv := (X.cell (p := ⟨b1, o1 + k * 2, none⟩) l1).trans (c1 k hka).1
          have dn := (X.cell (p := ⟨b1, o1 + k * 2 + 1, none⟩) l1).trans (c1 k hka).2
          have h1 := HP.out _ (List.getElem_mem hka)
          have hS := Runs.unrun_snoc l k hka
          have hU := HU.out k hka T
          obtain ⟨N, hN⟩ : ∃ N : Nat, l[k].2 = (N : Int) := ⟨l[k].2.toNat, by omega⟩
          rw [hN] at dn hS h1 hU
          rw [Int.toNat_natCast] at hS hU
          generalize l[k].1 = v at *
          have HS := hid hS
          clear hS hN c1 hka
          have hNI : 1 ≤ (N : Int) ∧ (N : Int) ≤ 64 := by omega
          have dvn : (wr.alloc (.cells #[.int .u64 (v : Int), .int .i64 (N : Int)] 54)).cell? ⟨wr.heap.size, 0, none⟩ = some (.int .u64 (v : Int)) := (Blk.new wr 54 #[.int .u64 (v : Int), .int .i64 (N : Int)]).cell 0
          have dnn : (wr.alloc (.cells #[.int .u64 (v : Int), .int .i64 (N : Int)] 54)).cell? ⟨wr.heap.size, 1, none⟩ = some (.int .i64 (N : Int)) := (Blk.new wr 54 #[.int .u64 (v : Int), .int .i64 (N : Int)]).cell 1
          by_cases hd : d < N
          · have HE := hid (show V = (v, 0) by rw [HV.out, hU (by rw [HD.out]; omega) (by rw [HD.out]; omega)])
            clear hU h1
            go_wp2
            go_returns
            exact ⟨by rw [HE.out]; rfl, X.new _⟩
          · clear hU h1
            go_wp2
            go_roundw
            case rel => exact ⟨k + 1, d - N, by omega, by go_num, by rw [Int.natCast_sub (by omega)], hid (by rw [HD.out, HS.out, List.length_append, List.length_replicate]; omega), X.new _⟩
            case measure => simp [intOf]; omega
        · obtain rfl : k = n := by omega
          have e : l.take k = l := List.take_of_length_le (by rw [HN.out]; exact Nat.le_refl _)
          have HE := hid (show V = (0, 3) by rw [HV.out, List.getElem?_eq_none (by have := HD.out; rw [e] at this; omega)])
          go_wp2
          go_returns
          exact ⟨by rw [HE.out]; rfl, X⟩
  · have e : Runs.att l t = (0, Runs.chk none 0 l) := by unfold Runs.att; rw [if_pos h]
    rw [e]
    obtain ⟨R, hR⟩ : ∃ R, R = Runs.chk none 0 l := ⟨_, rfl⟩
    rw [← hR] at H1 HC h ⊢
    have hb := HC.out
    have h1 : 1 ≤ R := by omega
    have hI : 1 ≤ (R : Int) ∧ (R : Int) ≤ 6 := by omega
    have e1 : ((R : Int) == 0) = false := by rw [beq_eq_false_iff_ne]; omega
    have e2 : ((R : Int) != 0) = true := by simp; omega
    clear hn hr hnl h hR hb h1 e
    go_enter Try.func31, Try.ntmps31
    go_wp2_with (go_at_call 28; refine H1.out.mono ?_; rintro e w1 ⟨rfl, hx⟩; have HX := hid hx; clear hx)
    go_returns
    exact ⟨rfl, HX.out⟩
end Go.Proofs.Ytgobnpogmghgkaa
