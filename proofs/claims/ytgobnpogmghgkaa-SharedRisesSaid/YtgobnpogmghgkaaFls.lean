/- Shared: the laws, walked. -/
import Derived.Test.YtgobnpogmghgkaaFbg
namespace Go.Proofs.Ytgobnpogmghgkaa
open Go.RowKit Hy
set_option maxHeartbeats 2000000 in
theorem sharedUltra_walk (a b c : ByteArray) (w : World) (ha : a.size ≤ 281474976710656) (hb : b.size ≤ 281474976710656) :
    Calls Try.prog 7 #[.string a, .string b, .string c] w fun e w' => e = .returned (.bool true) ∧ Ext w w' := by
  have la : a.data.toList.length = a.size := Array.length_toList
  have lb : b.data.toList.length = b.size := Array.length_toList
  obtain ⟨z1, h1⟩ : ∃ z, z = Front.shr a.data.toList b.data.toList := ⟨_, rfl⟩
  obtain ⟨z2, h2⟩ : ∃ z, z = Front.shr b.data.toList c.data.toList := ⟨_, rfl⟩
  obtain ⟨z3, h3⟩ : ∃ z, z = Front.shr a.data.toList c.data.toList := ⟨_, rfl⟩
  have C1 : ∀ wx : World, Hid (Calls Try.prog 19 #[.string a, .string b] wx fun e w' => e = .returned (.int .i64 z1) ∧ Ext wx w') := fun wx => by rw [h1]; exact hid (shared_any a b wx (by omega))
  have C2 : ∀ wx : World, Hid (Calls Try.prog 19 #[.string b, .string c] wx fun e w' => e = .returned (.int .i64 z2) ∧ Ext wx w') := fun wx => by rw [h2]; exact hid (shared_any b c wx (by omega))
  have C3 : ∀ wx : World, Hid (Calls Try.prog 19 #[.string a, .string c] wx fun e w' => e = .returned (.int .i64 z3) ∧ Ext wx w') := fun wx => by rw [h3]; exact hid (shared_any a c wx (by omega))
  have C4 : ∀ wx : World, Hid (Calls Try.prog 19 #[.string b, .string a] wx fun e w' => e = .returned (.int .i64 z1) ∧ Ext wx w') := fun wx => by rw [h1, Front.shr_comm]; exact hid (shared_any b a wx (by omega))
  have C5 : ∀ wx : World, Hid (Calls Try.prog 19 #[.string a, .string a] wx fun e w' => e = .returned (.int .i64 a.size) ∧ Ext wx w') := fun wx => by
    have := shared_any a a wx (by omega)
    rw [Front.shr_self, la] at this
    exact hid this
  have hu := Front.shr_ultra a.data.toList b.data.toList c.data.toList
  rw [← h1, ← h2, ← h3] at hu
  have hle := Front.shr_le a.data.toList b.data.toList
  rw [← h1, la, lb] at hle
  have huI : min (z1 : Int) (z2 : Int) ≤ (z3 : Int) := by omega
  have hlaI : (z1 : Int) ≤ (a.size : Int) := by omega
  have hlbI : (z1 : Int) ≤ (b.size : Int) := by omega
  have hall := Front.shr_all a.data.toList b.data.toList
  rw [← h1, la, lb] at hall
  have AL := hid (ha)
  by_cases hs : a.size = b.size
  · have hsI : ((a.size : Int) != (b.size : Int)) = false := by rw [bne_eq_false_iff_eq]; omega
    have hsJ : ((a.size : Int) == (b.size : Int)) = true := by rw [beq_iff_eq]; omega
    have hall := hall hs
    by_cases he : z1 = a.size
    · have e1 : ((z1 : Int) == (a.size : Int)) = true := by rw [beq_iff_eq]; omega
      have e2 : (a.toList == b.toList) = true := by
        rw [← str_self a, ← str_self b, ByteArray.toList_mk, ByteArray.toList_mk, hall.1 he]; simp
      clear h1 h2 h3 la lb hu hle hall ha hb hs he
      go_enter Try.func7, Try.ntmps7
      go_wp2_with (first
        | (go_at_call 19; first
            | (refine (C1 _).out.mono ?_; rintro e w1 ⟨rfl, b1⟩; have X1 := hid b1; clear b1 C1)
            | (refine (C2 _).out.mono ?_; rintro e w2 ⟨rfl, b2⟩; have X2 := hid (X1.out.then b2); clear b2 C2)
            | (refine (C3 _).out.mono ?_; rintro e w3 ⟨rfl, b3⟩; have X3 := hid (X2.out.then b3); clear b3 C3)
            | (refine (C4 _).out.mono ?_; rintro e w5 ⟨rfl, b5⟩; have X5 := hid (X4.out.then b5); clear b5 C4)
            | (refine (C5 _).out.mono ?_; rintro e w6 ⟨rfl, b6⟩; have X6 := hid (X5.out.then b6); clear b6 C5))
        | (go_at_call 18; refine (frontBegun_any _).mono ?_; rintro e w4 ⟨rfl, b4⟩; have X4 := hid (X3.out.then b4); clear b4))
      go_returns
      exact ⟨rfl, X6.out⟩
    · have e1 : ((z1 : Int) == (a.size : Int)) = false := by rw [beq_eq_false_iff_ne]; omega
      have e2 : (a.toList == b.toList) = false := by
        rw [← str_self a, ← str_self b, ByteArray.toList_mk, ByteArray.toList_mk, beq_eq_false_iff_ne]; exact fun h => he (hall.2 h)
      clear h1 h2 h3 la lb hu hle hall ha hb hs he
      go_enter Try.func7, Try.ntmps7
      go_wp2_with (first
        | (go_at_call 19; first
            | (refine (C1 _).out.mono ?_; rintro e w1 ⟨rfl, b1⟩; have X1 := hid b1; clear b1 C1)
            | (refine (C2 _).out.mono ?_; rintro e w2 ⟨rfl, b2⟩; have X2 := hid (X1.out.then b2); clear b2 C2)
            | (refine (C3 _).out.mono ?_; rintro e w3 ⟨rfl, b3⟩; have X3 := hid (X2.out.then b3); clear b3 C3)
            | (refine (C4 _).out.mono ?_; rintro e w5 ⟨rfl, b5⟩; have X5 := hid (X4.out.then b5); clear b5 C4)
            | (refine (C5 _).out.mono ?_; rintro e w6 ⟨rfl, b6⟩; have X6 := hid (X5.out.then b6); clear b6 C5))
        | (go_at_call 18; refine (frontBegun_any _).mono ?_; rintro e w4 ⟨rfl, b4⟩; have X4 := hid (X3.out.then b4); clear b4))
      go_returns
      exact ⟨rfl, X6.out⟩
  · have hsI : ((a.size : Int) != (b.size : Int)) = true := by rw [bne_iff_ne]; omega
    have hsJ : ((a.size : Int) == (b.size : Int)) = false := by rw [beq_eq_false_iff_ne]; omega
    clear h1 h2 h3 la lb hu hle hall ha hb hs
    go_enter Try.func7, Try.ntmps7
    go_wp2_with (first
      | (go_at_call 19; first
          | (refine (C1 _).out.mono ?_; rintro e w1 ⟨rfl, b1⟩; have X1 := hid b1; clear b1 C1)
          | (refine (C2 _).out.mono ?_; rintro e w2 ⟨rfl, b2⟩; have X2 := hid (X1.out.then b2); clear b2 C2)
          | (refine (C3 _).out.mono ?_; rintro e w3 ⟨rfl, b3⟩; have X3 := hid (X2.out.then b3); clear b3 C3)
          | (refine (C4 _).out.mono ?_; rintro e w5 ⟨rfl, b5⟩; have X5 := hid (X4.out.then b5); clear b5 C4)
          | (refine (C5 _).out.mono ?_; rintro e w6 ⟨rfl, b6⟩; have X6 := hid (X5.out.then b6); clear b6 C5))
      | (go_at_call 18; refine (frontBegun_any _).mono ?_; rintro e w4 ⟨rfl, b4⟩; have X4 := hid (X3.out.then b4); clear b4))
    go_returns
    exact ⟨rfl, X6.out⟩
theorem less_asymm (x y : List UInt8) (h : Op.bytesLess x y = true) : Op.bytesLess y x = false := by
  induction x generalizing y with
  | nil => cases y with
    | nil => simp [Op.bytesLess] at h
    | cons b y => rfl
  | cons a x ih => cases y with
    | nil => simp [Op.bytesLess] at h
    | cons b y =>
      simp only [Front.less_cons, Bool.or_eq_true, decide_eq_true_eq, Bool.and_eq_true, beq_iff_eq] at h
      simp only [Front.less_cons, Bool.or_eq_false_iff, decide_eq_false_iff_not, Bool.and_eq_false_iff, beq_eq_false_iff_ne]
      rcases h with h | ⟨rfl, h⟩
      · exact ⟨fun k => absurd (UInt8.lt_trans h k) (UInt8.lt_irrefl _), .inl fun k => by rw [k] at h; exact UInt8.lt_irrefl _ h⟩
      · exact ⟨UInt8.lt_irrefl _, .inr (ih y h)⟩
theorem leq_of (a b : ByteArray) (p q : Bool) (hp : Op.bytesLess a.toList b.toList = p) (hq : (a.toList == b.toList) = q) (h : (p || q) = true) : Front.leq a.data.toList b.data.toList := by
  have sa : a.toList = a.data.toList := by rw [← str_self a, ByteArray.toList_mk]
  have sb : b.toList = b.data.toList := by rw [← str_self b, ByteArray.toList_mk]
  rw [sa, sb] at hp hq
  unfold Front.leq
  rcases Bool.or_eq_true _ _ |>.mp h with rfl | rfl
  · exact less_asymm _ _ hp
  · rw [beq_iff_eq.1 hq]; exact Vary.less_self _
set_option maxHeartbeats 1000000 in
theorem sharedRises_walk (a b c : ByteArray) (w : World) (ha : a.size ≤ 281474976710656) (hb : b.size ≤ 281474976710656) :
    Calls Try.prog 8 #[.string a, .string b, .string c] w fun e w' => e = .returned (.bool true) ∧ Ext w w' := by
  have hL1 := leq_of a b _ _ rfl rfl
  have hL2 := leq_of b c _ _ rfl rfl
  obtain ⟨p1, hp1⟩ : ∃ p, Op.bytesLess a.toList b.toList = p := ⟨_, rfl⟩
  obtain ⟨q1, hq1⟩ : ∃ q, (a.toList == b.toList) = q := ⟨_, rfl⟩
  obtain ⟨p2, hp2⟩ : ∃ p, Op.bytesLess b.toList c.toList = p := ⟨_, rfl⟩
  obtain ⟨q2, hq2⟩ : ∃ q, (b.toList == c.toList) = q := ⟨_, rfl⟩
  rw [hp1, hq1] at hL1
  rw [hp2, hq2] at hL2
  by_cases h1 : (p1 || q1) = true
  · by_cases h2 : (p2 || q2) = true
    · have hr := Front.shr_rises a.data.toList b.data.toList c.data.toList (hL1 h1) (hL2 h2)
      obtain ⟨z1, g1⟩ : ∃ z, z = Front.shr a.data.toList b.data.toList := ⟨_, rfl⟩
      obtain ⟨z2, g2⟩ : ∃ z, z = Front.shr b.data.toList c.data.toList := ⟨_, rfl⟩
      obtain ⟨z3, g3⟩ : ∃ z, z = Front.shr a.data.toList c.data.toList := ⟨_, rfl⟩
      have C1 : ∀ wx : World, Hid (Calls Try.prog 19 #[.string a, .string b] wx fun e w' => e = .returned (.int .i64 z1) ∧ Ext wx w') := fun wx => by rw [g1]; exact hid (shared_any a b wx (by omega))
      have C2 : ∀ wx : World, Hid (Calls Try.prog 19 #[.string b, .string c] wx fun e w' => e = .returned (.int .i64 z2) ∧ Ext wx w') := fun wx => by rw [g2]; exact hid (shared_any b c wx (by omega))
      have C3 : ∀ wx : World, Hid (Calls Try.prog 19 #[.string a, .string c] wx fun e w' => e = .returned (.int .i64 z3) ∧ Ext wx w') := fun wx => by rw [g3]; exact hid (shared_any a c wx (by omega))
      rw [← g1, ← g2, ← g3] at hr
      have hrI : ((z3 : Int) == min (z1 : Int) (z2 : Int)) = true := by rw [beq_iff_eq]; omega
      clear ha hb g1 g2 g3 hr hL1 hL2
      cases p1 <;> cases q1 <;> cases p2 <;> cases q2
      all_goals first
        | exact absurd h1 (by decide)
        | exact absurd h2 (by decide)
        | (clear h1 h2
           go_enter Try.func8, Try.ntmps8
           go_wp2_with (first
             | (go_at_call 18; refine (frontBegun_any _).mono ?_; rintro e w4 ⟨rfl, b4⟩; have X4 := hid b4; clear b4)
             | (go_at_call 19; first
                 | (refine (C3 _).out.mono ?_; rintro e w3 ⟨rfl, b3⟩; have X3 := hid (X4.out.then b3); clear b3 C3)
                 | (refine (C1 _).out.mono ?_; rintro e w1 ⟨rfl, b1⟩; have X1 := hid (X3.out.then b1); clear b1 C1)
                 | (refine (C2 _).out.mono ?_; rintro e w2 ⟨rfl, b2⟩; have X2 := hid (X1.out.then b2); clear b2 C2)))
           go_returns
           exact ⟨rfl, X2.out⟩)
    · clear ha hb hL1 hL2
      cases p1 <;> cases q1 <;> cases p2 <;> cases q2
      all_goals first
        | exact absurd h1 (by decide)
        | exact absurd rfl h2
        | (clear h1 h2
           go_enter Try.func8, Try.ntmps8
           go_wp2_with (go_at_call 18; refine (frontBegun_any _).mono ?_; rintro e w4 ⟨rfl, b4⟩; have X4 := hid b4; clear b4)
           go_returns
           exact ⟨rfl, X4.out⟩)
  · clear ha hb hL1 hL2 hp2 hq2
    cases p1 <;> cases q1
    all_goals first
      | exact absurd rfl h1
      | (clear h1
         go_enter Try.func8, Try.ntmps8
         go_wp2_with (go_at_call 18; refine (frontBegun_any _).mono ?_; rintro e w4 ⟨rfl, b4⟩; have X4 := hid b4; clear b4)
         go_returns
         exact ⟨rfl, X4.out⟩)
end Go.Proofs.Ytgobnpogmghgkaa
