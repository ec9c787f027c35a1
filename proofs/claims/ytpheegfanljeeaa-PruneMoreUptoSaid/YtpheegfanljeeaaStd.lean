/- Stats: Raw, Of: walks. -/
import Derived.Test.YtpheegfanljeeaaStc
import Derived.Test.YtpheegfanljeeaaSto
namespace Hy.Cel
abbrev SO : Sta := (0, 0, O, O)
@[irreducible] def rawS (l : List Cel) : Sta := l.foldl addS SO
theorem rawS_nil : rawS [] = SO := by unfold rawS; rfl
theorem rawS_snoc (l : List Cel) (c : Cel) : rawS (l ++ [c]) = addS (rawS l) c := by unfold rawS; rw [List.foldl_append]; rfl
theorem addS_bd (s : Sta) (c : Cel) : (addS s c).1 = s.1 + 1 ∧ s.2.1 ≤ (addS s c).2.1 ∧ (addS s c).2.1 ≤ s.2.1 + 1 := by
  obtain ⟨a, b, d⟩ := s
  unfold addS; (repeat' split) <;> exact ⟨rfl, by simp only; omega, by simp only; omega⟩
theorem rawS_bd (l : List Cel) : (rawS l).1 = l.length ∧ 0 ≤ (rawS l).2.1 ∧ (rawS l).2.1 ≤ l.length := by
  induction l using snoc_ind with
  | h0 => rw [rawS_nil]; simp
  | h1 l c ih =>
    rw [rawS_snoc]
    have := addS_bd (rawS l) c
    rw [List.length_append, List.length_singleton]
    omega
theorem rawS_take (l : List Cel) (k : Nat) (h : k < l.length) : rawS (l.take (k + 1)) = addS (rawS (l.take k)) l[k] := by
  rw [List.take_succ_eq_append_getElem h, rawS_snoc]
end Hy.Cel
namespace Hy
open Go
abbrev staA (s : Sta) : Array Value := #[.int .i64 s.1, .int .i64 s.2.1, .int .i64 s.2.2.1.1, .int .u64 (s.2.2.1.2.1 : Nat), .string s.2.2.1.2.2, .int .i64 s.2.2.2.1, .int .u64 (s.2.2.2.2.1 : Nat), .string s.2.2.2.2.2]
theorem staA_one (s : Sta) : (staA s).all (·.oneCell') = true := by simp [Value.oneCell']
end Hy
namespace Go.Proofs.Ytpheegfanljeeaa
open Go.RowKit Hy
set_option maxHeartbeats 1600000 in
theorem raw_any (l : List Cel) (A : Option Addr) (n cap : Nat) (w : World) (hn : l.length = n) (hr : Rd w A (cls l)) (hnl : n ≤ 64) :
    Calls Try.prog 55 #[.slice A n cap] w fun e w' => e = .returned (staV (Cel.rawS l)) ∧ Ext w w' := by
  have HN := hid hn
  have HA := hid hr
  have hnI : (n : Int) ≤ 64 := by omega
  clear hn hr hnl
  go_enter Try.func55, Try.ntmps55
  go_wp2
  go_loopw [4, 7] (fun _ c wr => ∃ k : Nat, k ≤ n ∧ c = .int .i64 k ∧ Blk wr w.heap.size 45 (staA (Cel.rawS (l.take k))) ∧ Ext w wr) (fun _ c _ => n - (intOf c).toNat)
  case atStart => exact ⟨0, Nat.zero_le _, rfl, by rw [List.take_zero, Cel.rawS_nil]; exact Blk.new w _ _, Ext.new (ext_refl w) _⟩
  case round =>
    obtain ⟨k, hk, rfl, B, X⟩ := hrel
    by_cases hlt : k < n
    · have hka : k < l.length := by rw [HN.out]; exact hlt
      obtain ⟨b1, o1, e1, l1, c1⟩ := HA.out.cels k hka
      subst e1
      have d0 := (X.cell (p := ⟨b1, o1 + k * 3, none⟩) l1).trans (c1 k hka).1
      have d1 := (X.cell (p := ⟨b1, o1 + k * 3 + 1, none⟩) l1).trans (c1 k hka).2.1
      have d2 := (X.cell (p := ⟨b1, o1 + k * 3 + 2, none⟩) l1).trans (c1 k hka).2.2
      have hbd := Cel.rawS_bd (l.take k)
      have hlen : (l.take k).length = k := by rw [List.length_take]; omega
      rw [hlen] at hbd
      have HS := hid (Cel.rawS_take l k hka)
      have HAD := hid (add_any (Cel.rawS (l.take k)) l[k])
      generalize l[k] = c at *
      generalize Cel.rawS (l.take k) = S at *
      have HAD2 := hid (fun w => HAD.out w (by omega) (by omega) (by omega) (by omega))
      obtain ⟨R, hR⟩ : ∃ R, R = Cel.addS S c := ⟨_, rfl⟩
      rw [← hR] at HAD2 HS
      clear HAD hbd hlen hR c1 hka
      obtain ⟨kk, nn, tt⟩ := c
      obtain ⟨rows, nulls, ⟨lk, ln, ls⟩, ⟨mk, mn, ms⟩⟩ := S
      obtain ⟨rows', nulls', ⟨lk', ln', ls'⟩, ⟨mk', mn', ms'⟩⟩ := R
      simp only at d0 d1 d2 B
      have HB := hid (B.alloc (.cells #[.int .i64 kk, .int .u64 (nn : Int), .string tt] 37))
      obtain ⟨⟨p0, p1, p2, p3⟩, p4, p5, p6, p7⟩ := (B.alloc (.cells #[.int .i64 kk, .int .u64 (nn : Int), .string tt] 37)).c8
      clear B
      go_wp2_with fail
      refine (HAD2.out _).mono ?_
      rintro e w5 ⟨rfl, hx⟩
      have HB5 := hid (HB.out.keep hx)
      have X5 := hid ((X.new _).then hx)
      clear p0 p1 p2 p3 p4 p5 p6 p7 hx HB
      go_wp2_with (with_reducible (show wpList _ _ _ (⟨none, .store 45 (.tmp 2) (.tmp 13), _, _, _, _⟩ :: _) _ _); go_loud (refine wpList_store_blk rfl 45 (.tmp 2) (.tmp 13) rfl w.heap.size (staA (rows', nulls', (lk', ln', ls'), mk', mn', ms')) rfl rfl 45 _ HB5.out (by kernel_rfl) rfl (staA_one _) w.heap.size (Nat.le_refl _) ?_; intro w6 hB6 hF6 hL6; have HB6 := hid hB6; have X6 : Hid (Ext w w6) := hid (X5.out.trans hL6); clear hB6 hF6 hL6))
      go_roundw
      case rel => exact ⟨k + 1, by omega, by go_num, by rw [HS.out]; exact HB6.out, X6.out⟩
      case measure => simp [intOf]; omega
    · obtain rfl : k = n := by omega
      have e : l.take k = l := List.take_of_length_le (by rw [HN.out]; exact Nat.le_refl _)
      rw [e] at B
      obtain ⟨S, hS⟩ : ∃ S, S = Cel.rawS l := ⟨_, rfl⟩
      rw [← hS] at B
      have HSS := hid hS
      clear e hS
      obtain ⟨rows, nulls, ⟨lk, ln, ls⟩, ⟨mk, mn, ms⟩⟩ := S
      have HB := hid B
      obtain ⟨⟨r0, r1, r2, r3⟩, r4, r5, r6, r7⟩ := B.c8
      clear B
      go_wp2_with (with_reducible (show wpList _ _ _ (⟨none, .store 45 (.tmp 2) (.tmp 15), _, _, _, _⟩ :: _) _ _); go_loud (refine wpList_store_blk rfl 45 (.tmp 2) (.tmp 15) rfl w.heap.size (staA (rows, nulls, (lk, ln, ls), mk, mn, ms)) rfl rfl 45 _ HB.out (by kernel_rfl) rfl (staA_one _) w.heap.size (Nat.le_refl _) ?_; intro w6 hB6 hF6 hL6; have HB6 := hid hB6; have X6 : Hid (Ext w w6) := hid (X.trans hL6); clear hB6 hF6 hL6))
      refine bodyPost_ret (results_blk rfl _ _ w.heap.size 45 _ _ rfl HB6.out Try.underlying45 rfl (by kernel_rfl)) rfl ?_
      exact ⟨congrArg (fun s => Ending.returned (staV s)) HSS.out, X6.out⟩
set_option maxHeartbeats 1600000 in
/-- Of -/
theorem of_any (kind : Int) (l : List Cel) (A : Option Addr) (n cap : Nat) (w : World) (hn : l.length = n) (hr : Rd w A (cls l)) (hnl : n ≤ 140737488355328) :
    Calls Try.prog 22 #[.int .i64 kind, .slice A n cap] w fun e w' => e = .returned (.tuple #[staV (if Cel.cchk kind l = 0 then Cel.rawS l else Cel.SO), .int .i64 (Cel.cchk kind l : Nat)]) ∧ Ext w w' := by
  have HC := hid (fun w' (hx : Ext w w') => check_any kind l A n cap w' hn (hr.keep hx) hnl)
  have hle := Cel.cchk_le kind l
  have HX0 := hid (Ext.new (ext_refl w) (.cells #[.int .i64 0, .int .i64 0, .int .i64 0, .int .u64 0, .string .empty, .int .i64 0, .int .u64 0, .string .empty] 45))
  have HB0 := hid (Blk.new w 45 #[.int .i64 0, .int .i64 0, .int .i64 0, .int .u64 0, .string .empty, .int .i64 0, .int .u64 0, .string .empty])
  by_cases h : Cel.cchk kind l = 0
  · have h64 : n ≤ 64 := by
      unfold Cel.cchk at h
      split at h
      · cases h
      · split at h
        · cases h
        · omega
    have HR := hid (fun w' (hx : Ext w w') => raw_any l A n cap w' hn (hr.keep hx) h64)
    rw [if_pos h, h]
    rw [h] at HC
    obtain ⟨S, hS⟩ : ∃ S, S = Cel.rawS l := ⟨_, rfl⟩
    rw [← hS] at HR ⊢
    clear hle h h64 hS hn hr hnl
    obtain ⟨rows, nulls, ⟨lk, ln, ls⟩, ⟨mk, mn, ms⟩⟩ := S
    go_enter Try.func22, Try.ntmps22
    go_wp2_with (first
      | (go_at_call 39; refine (HC.out _ HX0.out).mono ?_; rintro e w1 ⟨rfl, hx⟩; replace HB0 := hid (HB0.out.keep hx); replace HX0 := hid (HX0.out.then hx); clear hx)
      | (go_at_call 55; refine (HR.out _ HX0.out).mono ?_; rintro e w2 ⟨rfl, hx⟩; replace HB0 := hid (HB0.out.keep hx); replace HX0 := hid (HX0.out.then hx); clear hx)
      | (with_reducible (show wpList _ _ _ (⟨none, .store 45 (.tmp 4) (.tmp 15), _, _, _, _⟩ :: _) _ _); go_loud (refine wpList_store_blk rfl 45 (.tmp 4) (.tmp 15) rfl w.heap.size (staA (rows, nulls, (lk, ln, ls), mk, mn, ms)) rfl rfl 45 _ HB0.out (by kernel_rfl) rfl (staA_one _) w.heap.size (Nat.le_refl _) ?_; intro w6 hB6 hF6 hL6; have HB6 := hid hB6; have X6 : Hid (Ext w w6) := hid (HX0.out.trans hL6); clear hB6 hF6 hL6)))
    refine bodyPost_ret (results_blk2 rfl _ _ w.heap.size 45 _ _ rfl HB6.out Try.underlying45 rfl (by kernel_rfl)) rfl ?_
    exact ⟨rfl, X6.out⟩
  · rw [if_neg h]
    obtain ⟨K, hK⟩ : ∃ K, K = Cel.cchk kind l := ⟨_, rfl⟩
    rw [← hK] at HC h hle ⊢
    have e1 : ((K : Int) == 0) = false := by rw [beq_eq_false_iff_ne]; omega
    have e2 : ((K : Int) != 0) = true := by simp; omega
    clear hK hle h hn hr hnl
    go_enter Try.func22, Try.ntmps22
    go_wp2_with (first
      | (go_at_call 39; refine (HC.out _ HX0.out).mono ?_; rintro e w1 ⟨rfl, hx⟩; replace HB0 := hid (HB0.out.keep hx); replace HX0 := hid (HX0.out.then hx); clear hx)
      | (with_reducible (show wpList _ _ _ (⟨none, .store 45 (.tmp 4) (.tmp 12), _, _, _, _⟩ :: _) _ _); go_loud (refine wpList_store_blk rfl 45 (.tmp 4) (.tmp 12) rfl w.heap.size (staA Cel.SO) rfl rfl 45 _ HB0.out (by kernel_rfl) rfl (staA_one _) w.heap.size (Nat.le_refl _) ?_; intro w6 hB6 hF6 hL6; have HB6 := hid hB6; have X6 : Hid (Ext w w6) := hid (HX0.out.trans hL6); clear hB6 hF6 hL6)))
    refine bodyPost_ret (results_blk2 rfl _ _ w.heap.size 45 _ _ rfl HB6.out Try.underlying45 rfl (by kernel_rfl)) rfl ?_
    exact ⟨rfl, X6.out⟩
end Go.Proofs.Ytpheegfanljeeaa
