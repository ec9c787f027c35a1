/- Front: the laws, walked. -/
import Derived.Test.YtgobnpogmghgkaaFbg
namespace Hy.Front
theorem rdl_len {s : Tx} {many : Int} : (rdl s many).1.length ≤ 64 := by
  obtain ⟨l, e, h⟩ : ∃ l e, rdl s many = (l, e) := ⟨_, _, rfl⟩
  rw [h]
  by_cases he : e = 0
  · subst he; exact (rdl_only h).2.2
  · have := rdl_err (s := s) (many := many) (by rw [h]; exact he)
    rw [h] at this
    simp only at this
    rw [this]; simp
end Hy.Front
namespace Go.Proofs.Ytgobnpogmghgkaa
open Go.RowKit Hy
theorem sameTexts_self (l : List (List UInt8)) : sameTexts l l = true := by simp [sameTexts]
theorem many_of (l : List (List UInt8)) (c : Bool) (A : Option Addr) (n cap : Nat) (h : (!(decide (n ≤ 64) && Front.fitB l)) = c) (w : World) (hn : l.length = n) (hr : Rd w A (txs l)) (hnl : n ≤ 140737488355328) :
    Calls Try.prog 16 #[.slice A n cap] w fun e w' => e = .returned (.bool c) ∧ w = w' := by
  have := manyTexts_any l A n cap w hn hr hnl
  rw [h] at this; exact this
set_option maxHeartbeats 1000000 in
theorem frontTells_walk (a b : ByteArray) (l : List (List UInt8)) (A : Option Addr) (n cap : Nat) (w : World) (hn : l.length = n) (hr : Rd w A (txs l)) (hnl : n ≤ 140737488355328) (ha : a.size ≤ 281474976710656) :
    Calls Try.prog 3 #[.string a, .string b, .slice A n cap] w fun e w' => e = .returned (.bool true) ∧ Ext w w' := by
  have HA := hid hr
  have HN := hid hn
  have HNL := hid hnl
  have HS1 := fun wx : World => hid (shared_any a b wx (by omega))
  have HS2 := fun wx : World => hid (sharedOf_any a b wx (by omega))
  generalize Front.shr a.data.toList b.data.toList = z at *
  by_cases hf : n ≤ 64 ∧ Front.fitB l = true
  · have HW := hid (fwrite_of l _ 0 (Front.wrt_ok (by omega) hf.2) A n cap w hn hr hnl)
    have HM := hid (fun wx hx => many_of l false A n cap (by rw [decide_eq_true hf.1, hf.2]; rfl) wx hn hx hnl)
    have HF := hid (fun wx hx => frontBytes_any l A n cap wx hn hx hf.1 hf.2)
    generalize (Front.bytes l).toArray = q at *
    clear hr hn hnl ha hf
    go_enter Try.func3, Try.ntmps3
    go_wp2_with (first
      | (go_at_call 15; refine HW.out.mono ?_; rintro e w1 ⟨rfl, b1⟩)
      | (go_at_call 16; refine (HM.out _ (HA.out.keep b1)).mono ?_; rintro e w2 ⟨rfl, rfl⟩)
      | (go_at_call 17; refine (HF.out _ (HA.out.keep b1)).mono ?_; rintro e w3 ⟨rfl, b3⟩)
      | (go_at_call 18; refine (frontBegun_any _).mono ?_; rintro e w4 ⟨rfl, b4⟩)
      | (go_at_call 19; refine (HS1 _).out.mono ?_; rintro e w5 ⟨rfl, b5⟩)
      | (go_at_call 20; refine (HS2 _).out.mono ?_; rintro e w6 ⟨rfl, b6⟩))
    go_returns
    exact ⟨rfl, (((b1.then b3).then b4).then b5).then b6⟩
  · have HW := hid (fwrite_of l _ 2 (Front.wrt_bad (l := l) (fun h => hf ⟨by omega, h.2⟩)) A n cap w hn hr hnl)
    have HM := hid (fun wx hx => many_of l true A n cap (by
      rw [Bool.not_eq_true', Bool.and_eq_false_iff, decide_eq_false_iff_not]
      by_cases h1 : n ≤ 64
      · exact .inr (by rw [← Bool.not_eq_true]; exact fun h2 => hf ⟨h1, h2⟩)
      · exact .inl h1) wx hn hx hnl)
    clear hr hn hnl ha hf
    go_enter Try.func3, Try.ntmps3
    go_wp2_with (first
      | (go_at_call 15; refine HW.out.mono ?_; rintro e w1 ⟨rfl, b1⟩)
      | (go_at_call 16; refine (HM.out _ (HA.out.keep b1)).mono ?_; rintro e w2 ⟨rfl, rfl⟩)
      | (go_at_call 18; refine (frontBegun_any _).mono ?_; rintro e w4 ⟨rfl, b4⟩)
      | (go_at_call 19; refine (HS1 _).out.mono ?_; rintro e w5 ⟨rfl, b5⟩)
      | (go_at_call 20; refine (HS2 _).out.mono ?_; rintro e w6 ⟨rfl, b6⟩))
    go_returns
    exact ⟨rfl, ((b1.then b4).then b5).then b6⟩
set_option maxHeartbeats 1000000 in
theorem frontReads_walk (s : ByteArray) (many : Int) (w : World) (hs : s.size ≤ 281474976710656) :
    Calls Try.prog 4 #[.string s, .int .i64 many] w fun e w' => e = .returned (.bool true) ∧ Ext w w' := by
  have H1 := fun wx : World => hid (fread_any s many wx hs)
  have H2 := fun wx : World => hid (frontOf_any s many wx hs)
  have HL := hid (Front.rdl_len (s := s.data.toList) (many := many))
  generalize (Front.rdl s.data.toList many).1 = L at *
  generalize (Front.rdl s.data.toList many).2 = er at *
  have HSS := hid (sameTexts_self L)
  go_enter Try.func4, Try.ntmps4
  go_wp2_with (first
    | (go_at_call 21; refine (H1 _).out.mono ?_; rintro e w1 ⟨A1, c1, rfl, hr1, b1⟩; have R1 := hid hr1; clear hr1)
    | (go_at_call 22; refine (H2 _).out.mono ?_; rintro e w2 ⟨A2, c2, rfl, hr2, b2⟩; have R2 := hid hr2; clear hr2)
    | (go_at_call 18; refine (frontBegun_any _).mono ?_; rintro e w4 ⟨rfl, b4⟩)
    | (go_at_call 23; refine (sameTexts_any L L _ _ _ _ _ _ _ rfl rfl (R1.out.keep (b2.then b4)) (R2.out.keep b4) (by have := HL.out; omega)).mono ?_; rintro e w5 ⟨rfl, b5⟩; rw [HSS.out]))
  go_returns
  exact ⟨rfl, ((b1.then b2).then b4).then b5⟩
set_option maxHeartbeats 1000000 in
theorem frontOnly_walk (s : ByteArray) (many : Int) (w : World) (hs : s.size ≤ 281474976710656) :
    Calls Try.prog 6 #[.string s, .int .i64 many] w fun e w' => e = .returned (.bool true) ∧ Ext w w' := by
  have H1 := fun wx : World => hid (fread_any s many wx hs)
  have HL := hid (Front.rdl_len (s := s.data.toList) (many := many))
  obtain ⟨L, er, hrd⟩ : ∃ L er, Front.rdl s.data.toList many = (L, er) := ⟨_, _, rfl⟩
  simp only [hrd] at H1
  rw [hrd] at HL
  by_cases he : er = 0
  · subst he
    obtain ⟨h1, h2, h3⟩ := Front.rdl_only hrd
    subst h2
    have HW := hid (fun A n cap wx hn hr hnl => fwrite_of L _ 0 h1 A n cap wx hn hr hnl)
    clear hrd h1 h3
    go_enter Try.func6, Try.ntmps6
    go_wp2_with (first
      | (go_at_call 21; refine (H1 _).out.mono ?_; rintro e w1 ⟨A1, c1, rfl, hr1, b1⟩; have R1 := hid hr1; clear hr1)
      | (go_at_call 18; refine (frontBegun_any _).mono ?_; rintro e w4 ⟨rfl, b4⟩)
      | (go_at_call 15; refine (HW.out _ _ _ _ rfl (R1.out.keep b4) (by have := HL.out; omega)).mono ?_; rintro e w5 ⟨rfl, b5⟩))
    go_returns
    exact ⟨rfl, (b1.then b4).then b5⟩
  · have h3 : ((er : Int) != 0) = true := by rw [bne_iff_ne]; omega
    have h4 : ((er : Int) == 0) = false := by rw [beq_eq_false_iff_ne]; omega
    have h0 := Front.rdl_err (s := s.data.toList) (many := many) (by rw [hrd]; exact he)
    rw [hrd] at h0
    simp only at h0
    subst h0
    clear hrd he
    go_enter Try.func6, Try.ntmps6
    go_wp2_with (first
      | (go_at_call 21; refine (H1 _).out.mono ?_; rintro e w1 ⟨A1, c1, rfl, hr1, b1⟩; have R1 := hid hr1; clear hr1)
      | (go_at_call 18; refine (frontBegun_any _).mono ?_; rintro e w4 ⟨rfl, b4⟩))
    go_returns
    exact ⟨rfl, b1.then b4⟩
set_option maxHeartbeats 1000000 in
theorem frontBack_walk (l : List (List UInt8)) (A : Option Addr) (n cap : Nat) (w : World) (hn : l.length = n) (hr : Rd w A (txs l)) (hnl : n ≤ 140737488355328) (hsz : (Front.bytes l).length ≤ 281474976710656 ∨ ¬ (n ≤ 64 ∧ Front.fitB l = true)) :
    Calls Try.prog 5 #[.slice A n cap] w fun e w' => e = .returned (.bool true) ∧ Ext w w' := by
  have HA := hid hr
  by_cases hf : n ≤ 64 ∧ Front.fitB l = true
  · have HW := hid (fwrite_of l _ 0 (Front.wrt_ok (by omega) hf.2) A n cap w hn hr hnl)
    have hrb := Front.rdl_bytes l (by omega) hf.2
    rw [hn] at hrb
    have HR := hid (fun wx => fread_of (Front.bytes l) n l 0 hrb (by rcases hsz with h | h; exact h; exact absurd hf h) wx)
    have HS := hid (sameTexts_self l)
    have HNL := hid hnl
    have HN := hid hn
    generalize (Front.bytes l).toArray = q at *
    subst hn
    clear hr hf hrb hsz hnl HN
    go_enter Try.func5, Try.ntmps5
    go_wp2_with (first
      | (go_at_call 15; refine HW.out.mono ?_; rintro e w1 ⟨rfl, b1⟩)
      | (go_at_call 18; refine (frontBegun_any _).mono ?_; rintro e w4 ⟨rfl, b4⟩)
      | (go_at_call 21; refine (HR.out _).mono ?_; rintro e w5 ⟨A1, c1, rfl, hr1, b5⟩; have R1 := hid hr1; clear hr1)
      | (go_at_call 23; refine (sameTexts_any l l _ _ _ _ _ _ _ rfl rfl R1.out (HA.out.keep ((b1.then b4).then b5)) HNL.out).mono ?_; rintro e w6 ⟨rfl, b6⟩; rw [HS.out]))
    go_returns
    exact ⟨rfl, ((b1.then b4).then b5).then b6⟩
  · have HW := hid (fwrite_of l _ 2 (Front.wrt_bad (l := l) (fun h => hf ⟨by omega, h.2⟩)) A n cap w hn hr hnl)
    clear hr hn hnl hf hsz
    go_enter Try.func5, Try.ntmps5
    go_wp2_with (first
      | (go_at_call 15; refine HW.out.mono ?_; rintro e w1 ⟨rfl, b1⟩)
      | (go_at_call 18; refine (frontBegun_any _).mono ?_; rintro e w4 ⟨rfl, b4⟩))
    go_returns
    exact ⟨rfl, b1.then b4⟩
end Go.Proofs.Ytgobnpogmghgkaa
namespace Hy.Front
theorem enc_len : ∀ (l : List Tx) (last : Tx), (∀ s ∈ l, s.length ≤ 16) → (enc last l).length ≤ 18 * l.length
  | [], _, _ => Nat.le_refl _
  | s :: r, last, h => by
    have h1 := enc_len r s fun t ht => h t (List.mem_cons_of_mem _ ht)
    have h2 := h s List.mem_cons_self
    have h3 := one_len last s h2
    simp only [enc, List.length_append, List.length_cons] at *
    omega
theorem bytes_len (l : List Tx) (n : Nat) (hn : l.length = n) : (bytes l).length ≤ 281474976710656 ∨ ¬ (n ≤ 64 ∧ fitB l = true) := by
  by_cases h : n ≤ 64 ∧ fitB l = true
  · refine .inl ?_
    rw [bytes_eq]
    have := enc_len l [] ((fitB_iff l).1 h.2)
    omega
  · exact .inr h
end Hy.Front
