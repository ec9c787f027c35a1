/- Stats: plain laws: in whatever order parts are merged. -/
import Derived.Test.YtikdmnedbfpkeaaStn
namespace Hy.Cel
theorem sck_iff {kind : Int} {s : Sta} : sck kind s = 0 ↔ (kind = 1 ∨ kind = 2) ∧ (0 ≤ s.1 ∧ s.1 ≤ 128 ∧ 0 ≤ s.2.1 ∧ s.2.1 ≤ s.1) ∧ alone kind s.2.2.1 = 0 ∧ alone kind s.2.2.2 = 0 ∧ (s.2.2.1.1 = 0 ↔ s.2.1 = s.1) ∧ (s.2.2.2.1 = 0 ↔ s.2.1 = s.1) ∧ less s.2.2.2 s.2.2.1 = false := by
  unfold sck
  split
  · rename_i h; exact ⟨fun h' => (by cases h'), fun h' => absurd h (by omega)⟩
  · rename_i h
    split
    · rename_i h1; exact ⟨fun h' => (by cases h'), fun h' => absurd h1 (by omega)⟩
    · rename_i h1
      split
      · rename_i h2; exact ⟨fun h' => absurd h' h2, fun h' => absurd h'.2.2.1 h2⟩
      · rename_i h2
        split
        · rename_i h3; exact ⟨fun h' => absurd h' h3, fun h' => absurd h'.2.2.2.1 h3⟩
        · rename_i h3
          have q : ∀ (x y z : Int), ((x == 0) = (y == z)) ↔ (x = 0 ↔ y = z) := fun x y z => by
            rw [Bool.eq_iff_iff, beq_iff_eq, beq_iff_eq]
          split
          · rename_i h4
            refine ⟨fun h' => (by cases h'), fun h' => ?_⟩
            obtain ⟨-, -, -, -, e1, e2, e3⟩ := h'
            rw [(q _ _ _).2 e1, (q _ _ _).2 e2, e3] at h4
            simp at h4
          · rename_i h4
            simp only [Bool.or_eq_true, not_or, Bool.not_eq_true, bne_eq_false_iff_eq] at h4
            exact ⟨fun _ => ⟨by omega, by omega, Decidable.not_not.1 h2, Decidable.not_not.1 h3, (q _ _ _).1 h4.1.1, (q _ _ _).1 h4.1.2, h4.2⟩, fun _ => rfl⟩
theorem minC_zero {a b : Cel} : (minC a b).1 = 0 ↔ a.1 = 0 ∧ b.1 = 0 := by
  unfold minC
  split
  · rename_i h; rcases h with h | h
    · simp [h]
    · simp [h.1]
  · rename_i h
    have : a.1 ≠ 0 := fun h' => h (.inl h')
    simp [this]
theorem maxC_zero {a b : Cel} (h0 : a.1 ≠ 0 → b.1 = 0 → less a b = false) (h1 : a.1 = 0 → b.1 ≠ 0 → less a b = true) : (maxC a b).1 = 0 ↔ a.1 = 0 ∧ b.1 = 0 := by
  unfold maxC
  by_cases ha : a.1 = 0 <;> by_cases hb : b.1 = 0
  · split <;> simp [ha, hb]
  · rw [h1 ha hb]; simp [hb]
  · rw [h0 ha hb]; simp [ha]
  · split <;> simp [ha, hb]
theorem sck_both {kind : Int} {a b : Sta} (ha : sck kind a = 0) (hb : sck kind b = 0) (h : a.1 + b.1 ≤ 128) : sck kind (bothS a b) = 0 := by
  obtain ⟨p1, p2, p3, p4, p5, p6, p7⟩ := sck_iff.1 ha
  obtain ⟨q1, q2, q3, q4, q5, q6, q7⟩ := sck_iff.1 hb
  refine sck_iff.2 ⟨p1, ?_, ?_, ?_, ?_, ?_, ?_⟩
  · unfold bothS; simp only; omega
  · unfold bothS minC; simp only; split <;> assumption
  · unfold bothS maxC; simp only; split <;> assumption
  · unfold bothS; simp only
    rw [minC_zero, p5, q5]; omega
  · unfold bothS; simp only
    rw [maxC_zero (fun h1 h2 => less_null_right _ _ h2 h1) (fun h1 h2 => less_null_left _ _ h1 h2), p6, q6]; omega
  · unfold bothS; simp only
    have oa := alone_ok p3
    have ob := alone_ok q3
    have oa' := alone_ok p4
    have ob' := alone_ok q4
    by_cases h1 : a.2.2.1.1 = 0
    · have h2 := p6.2 (p5.1 h1)
      rw [oa h1, oa' h2, minC_O, maxC_O ob']; exact q7
    · by_cases h2 : b.2.2.1.1 = 0
      · have h3 := q6.2 (q5.1 h2)
        rw [ob h2, ob' h3, minC_O' oa, maxC_O' oa']; exact p7
      · unfold minC maxC
        cases e1 : less b.2.2.1 a.2.2.1 <;> cases e2 : less a.2.2.2 b.2.2.2 <;> simp [h1, h2]
        · exact p7
        · exact le_trans' e1 q7
        · exact le_trans' (less_asym e1) p7
        · exact q7
theorem bothS_comm {kind : Int} {a b : Sta} (ha : sck kind a = 0) (hb : sck kind b = 0) : bothS a b = bothS b a := by
  unfold bothS
  rw [minC_comm (alone_ok (sck_alone ha).1) (alone_ok (sck_alone hb).1), maxC_comm, Int.add_comm, Int.add_comm a.2.1]
theorem bothS_assoc {kind : Int} {a b c : Sta} (ha : sck kind a = 0) (hb : sck kind b = 0) (hc : sck kind c = 0) : bothS (bothS a b) c = bothS a (bothS b c) := by
  unfold bothS
  simp only
  rw [minC_assoc (alone_ok (sck_alone ha).1) (alone_ok (sck_alone hb).1) (alone_ok (sck_alone hc).1), maxC_assoc, Int.add_assoc, Int.add_assoc]
theorem mg_eq {kind : Int} {a b : Sta} : ((mg kind a b).2 = 0 ∧ sck kind a = 0 ∧ sck kind b = 0 ∧ a.1 + b.1 ≤ 128 ∧ (mg kind a b).1 = bothS a b) ∨ ((mg kind a b).2 ≠ 0 ∧ (mg kind a b).1 = SO) := by
  unfold mg
  split
  · rename_i h; exact .inr ⟨h, rfl⟩
  · rename_i h
    split
    · rename_i h1; exact .inr ⟨h1, rfl⟩
    · rename_i h1
      split
      · exact .inr ⟨by simp, rfl⟩
      · rename_i h2; exact .inl ⟨rfl, Decidable.not_not.1 h, Decidable.not_not.1 h1, by omega, rfl⟩
theorem mg_of {kind : Int} {a b : Sta} (ha : sck kind a = 0) (hb : sck kind b = 0) (h : a.1 + b.1 ≤ 128) : mg kind a b = (bothS a b, 0) := by
  unfold mg
  rw [if_neg (by simp [ha]), if_neg (by simp [hb]), if_neg (by omega)]
theorem sck_SO {kind : Int} (h : kind = 1 ∨ kind = 2) : sck kind SO = 0 :=
  sck_iff.2 ⟨h, by decide, alone_O h, alone_O h, by decide, by decide, by decide +kernel⟩
/-- StatsMonoid -/
theorem monoid {kind : Int} {a b : Sta} (h : (mg kind a b).2 = 0) (c : Sta) :
    mg kind b a = mg kind a b ∧ mg kind a SO = (a, 0) ∧
      ((mg kind (mg kind a b).1 c).2 = 0 → (mg kind b c).2 = 0 → mg kind a (mg kind b c).1 = ((mg kind (mg kind a b).1 c).1, 0)) := by
  rcases mg_eq (kind := kind) (a := a) (b := b) with ⟨-, ha, hb, hs, e1⟩ | ⟨h', -⟩
  · refine ⟨?_, ?_, fun h1 h2 => ?_⟩
    · rw [mg_of ha hb hs, mg_of hb ha (by omega), bothS_comm ha hb]
    · have hk := (sck_iff.1 ha).1
      have hr := (sck_iff.1 ha).2.1
      rw [mg_of ha (sck_SO hk) (by simp only; omega)]
      unfold bothS
      simp only
      rw [minC_O' (alone_ok (sck_alone ha).1), maxC_O' (alone_ok (sck_alone ha).2), Int.add_zero, Int.add_zero]
    · rcases mg_eq (kind := kind) (a := (mg kind a b).1) (b := c) with ⟨-, hx, hc, hs2, e2⟩ | ⟨h', -⟩
      · rcases mg_eq (kind := kind) (a := b) (b := c) with ⟨-, -, -, hs3, e3⟩ | ⟨h', -⟩
        · rw [e2, e3, e1]
          rw [e1] at hs2
          rw [mg_of ha (sck_both hb hc hs3) (by unfold bothS at hs2 ⊢; simp only at hs2 ⊢; omega), bothS_assoc ha hb hc]
        · exact absurd h2 h'
      · exact absurd h1 h'
  · exact absurd h h'
end Hy.Cel
