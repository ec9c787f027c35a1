/- Stats: plain laws: what Raw counts is what the document knows; Merge is MergedOf. -/
import Derived.Test.YtikdmnedbfpkeaaSta
import Derived.Test.YtikdmnedbfpkeaaStk
namespace Hy.Cel
theorem mm (l : List Cel) (hl : ∀ c ∈ l, ok c) : ((mn l).1 = 0 → mn l = O ∧ mx l = O) ∧ ((mn l).1 ≠ 0 → (mx l).1 ≠ 0 ∧ less (mx l) (mn l) = false) := by
  obtain ⟨a1, a2, a3⟩ := mn_le l hl
  obtain ⟨b1, b2, b3⟩ := mx_ge l hl
  refine ⟨fun h => ⟨a1 h, ?_⟩, fun h => b2 _ (a3 h) h⟩
  by_cases h' : (mx l).1 = 0
  · exact b1 h'
  · exact absurd h (a2 _ (b3 h') h').1
theorem dense_snoc (l : List Cel) (c : Cel) : dense (l ++ [c]) = if c.1 ≠ 0 then dense l ++ [c] else dense l := by
  unfold dense
  rw [List.filter_append]
  split
  · rename_i h; rw [List.filter_cons_of_pos (by simpa using h)]; rfl
  · rename_i h; rw [List.filter_cons_of_neg (by simpa using h)]; simp only [List.filter_nil, List.append_nil]
theorem rawS_mm (l : List Cel) (hl : ∀ c ∈ l, ok c) : rawS l = ((l.length : Int), (l.length : Int) - (dense l).length, mn l, mx l) := by
  induction l using snoc_ind with
  | h0 => rw [rawS_nil]; rfl
  | h1 l c ih =>
    have hl' : ∀ c ∈ l, ok c := fun e he => hl e (by simp [he])
    have hc := hl c (by simp)
    obtain ⟨m1, m2⟩ := mm l hl'
    have hi := (mn_le l hl').1
    have hx := (mx_ge l hl').1
    rw [rawS_snoc, ih hl', mn_snoc, mx_snoc, dense_snoc]
    generalize mn l = m at *
    generalize mx l = x at *
    generalize dense l = d at *
    unfold addS
    simp only [List.length_append, List.length_cons, List.length_nil]
    by_cases h0 : c.1 = 0
    · have : c = O := hc h0
      subst this
      rw [if_pos h0, if_neg (by simp), minC_O' hi, maxC_O' hx]
      refine Prod.ext (by simp) (Prod.ext ?_ rfl)
      simp only; omega
    · rw [if_neg h0, if_pos h0]
      have e1 : ((l.length + (0 + 1) : Nat) : Int) = (l.length : Int) + 1 := by omega
      have e2 : ((l.length : Int) + 1 - (d ++ [c]).length) = (l.length : Int) - d.length := by simp only [List.length_append, List.length_cons, List.length_nil]; omega
      rw [e1, e2]
      by_cases h1 : m.1 = 0
      · obtain ⟨rfl, rfl⟩ := m1 h1
        rw [if_pos h1, minC_O, maxC_O hc]
      · rw [if_neg h1]
        obtain ⟨j1, j2⟩ := m2 h1
        unfold minC maxC
        cases h2 : less c m with
        | true =>
          rw [if_pos rfl, if_pos (.inr ⟨h0, rfl⟩), if_neg (by rw [le_trans' (less_asym h2) j2]; simp)]
        | false =>
          have q : ¬ (m.1 = 0 ∨ c.1 ≠ 0 ∧ false = true) := by simp [h1]
          simp only [if_neg q]
          cases h3 : less x c <;> simp
theorem pick_fold (p : Cel → Bool) (m : Cel) (d : List Cel) (h : ∀ c ∈ d, p c = true → c = m) (z : Cel) : d.foldl (pick p) z = if d.any p then m else z := by
  induction d generalizing z with
  | nil => rfl
  | cons c d ih =>
    rw [List.foldl_cons, ih fun e he => h e (by simp [he]), List.any_cons]
    unfold pick
    cases hp : p c with
    | false => rw [Bool.false_or]; rfl
    | true => obtain rfl := h c (by simp) hp; simp
theorem known_rawS (l : List Cel) (hl : ∀ c ∈ l, ok c) : known l = rawS l := by
  rw [rawS_mm l hl]
  unfold known
  obtain ⟨a1, a2, a3⟩ := mn_le l hl
  obtain ⟨b1, b2, b3⟩ := mx_ge l hl
  have hd : ∀ c, c ∈ dense l ↔ c ∈ l ∧ c.1 ≠ 0 := fun c => by unfold dense; rw [List.mem_filter]; simp
  obtain ⟨m1, m2⟩ := mm l hl
  by_cases h0 : (mn l).1 = 0
  · obtain ⟨e1, e2⟩ := m1 h0
    have : dense l = [] := by
      rw [List.eq_nil_iff_forall_not_mem]
      intro c hc
      exact (a2 c ((hd c).1 hc).1 ((hd c).1 hc).2).1 h0
    rw [e1, e2, this]; rfl
  · have hm := (hd _).2 ⟨a3 h0, h0⟩
    have hx := (hd _).2 ⟨b3 (m2 h0).1, (m2 h0).1⟩
    rw [pick_fold (isLst (dense l)) (mn l) (dense l) (fun c hc hp => by
      have h1 : less (mn l) c = false := by have := (List.all_eq_true.1 hp) _ hm; simpa using this
      exact eq_of_not (a2 c ((hd c).1 hc).1 ((hd c).1 hc).2).2 h1), if_pos, pick_fold (isMst (dense l)) (mx l) (dense l) (fun c hc hp => by
      have h1 : less c (mx l) = false := by have := (List.all_eq_true.1 hp) _ hx; simpa using this
      exact eq_of_not h1 (b2 c ((hd c).1 hc).1 ((hd c).1 hc).2).2), if_pos]
    · exact List.any_eq_true.2 ⟨_, hx, List.all_eq_true.2 fun e he => by rw [(b2 e ((hd e).1 he).1 ((hd e).1 he).2).2]; rfl⟩
    · exact List.any_eq_true.2 ⟨_, hm, List.all_eq_true.2 fun e he => by rw [(a2 e ((hd e).1 he).1 ((hd e).1 he).2).2]; rfl⟩
theorem sck_ord {kind : Int} {s : Sta} (h : sck kind s = 0) : (s.2.2.1.1 = 0 ↔ s.2.2.2.1 = 0) ∧ less s.2.2.2 s.2.2.1 = false := by
  obtain ⟨h1, h2⟩ := sck_alone h
  unfold sck at h
  split at h
  · cases h
  · split at h
    · cases h
    · rw [if_neg (by simp [h1]), if_neg (by simp [h2])] at h
      split at h
      · cases h
      · rename_i h3
        simp only [Bool.or_eq_true, not_or, Bool.not_eq_true, bne_eq_false_iff_eq] at h3
        obtain ⟨⟨q1, q2⟩, q3⟩ := h3
        refine ⟨?_, q3⟩
        rw [← q2] at q1
        rw [← beq_iff_eq (b := (0 : Int)), q1, beq_iff_eq]
theorem two {kind : Int} {s : Sta} (h : sck kind s = 0) : ok s.2.2.1 ∧ ok s.2.2.2 ∧ minC s.2.2.1 s.2.2.2 = s.2.2.1 ∧ maxC s.2.2.1 s.2.2.2 = s.2.2.2 := by
  obtain ⟨h1, h2⟩ := sck_alone h
  have o1 := alone_ok h1
  have o2 := alone_ok h2
  obtain ⟨h3, h4⟩ := sck_ord h
  refine ⟨o1, o2, ?_, ?_⟩
  · by_cases h0 : s.2.2.1.1 = 0
    · rw [o1 h0, o2 (h3.1 h0)]; exact minC_O
    · unfold minC; rw [if_neg (by simp [h0, h4])]
  · unfold maxC
    split
    · rfl
    · rename_i h5; exact eq_of_not (by simpa using h5) h4
theorem mg_mof (kind : Int) (a b : Sta) : mg kind a b = mof kind a b := by
  unfold mg mof
  by_cases h1 : sck kind a = 0
  · by_cases h2 : sck kind b = 0
    · obtain ⟨p1, p2, p3, p4⟩ := two h1
      obtain ⟨q1, q2, q3, q4⟩ := two h2
      have hok : ∀ c ∈ [a.2.2.1, a.2.2.2, b.2.2.1, b.2.2.2], ok c := fun c hc => by
        simp only [List.mem_cons, List.not_mem_nil, or_false] at hc
        rcases hc with rfl | rfl | rfl | rfl <;> assumption
      have hoa : ∀ c ∈ [a.2.2.1, a.2.2.2], ok c := fun c hc => hok c (by simp at hc ⊢; rcases hc with h | h <;> simp [h])
      have hob : ∀ c ∈ [b.2.2.1, b.2.2.2], ok c := fun c hc => hok c (by simp at hc ⊢; rcases hc with h | h <;> simp [h])
      rw [known_rawS _ hok, rawS_mm _ hok]
      have e1 : mn [a.2.2.1, a.2.2.2, b.2.2.1, b.2.2.2] = minC a.2.2.1 b.2.2.1 := by
        rw [show [a.2.2.1, a.2.2.2, b.2.2.1, b.2.2.2] = [a.2.2.1, a.2.2.2] ++ [b.2.2.1, b.2.2.2] from rfl, mn_app _ _ hoa hob]
        show minC (minC (minC O a.2.2.1) a.2.2.2) (minC (minC O b.2.2.1) b.2.2.2) = _
        rw [minC_O, minC_O, p3, q3]
      have e2 : mx [a.2.2.1, a.2.2.2, b.2.2.1, b.2.2.2] = maxC a.2.2.2 b.2.2.2 := by
        rw [show [a.2.2.1, a.2.2.2, b.2.2.1, b.2.2.2] = [a.2.2.1, a.2.2.2] ++ [b.2.2.1, b.2.2.2] from rfl, mx_app _ _ hoa hob]
        show maxC (maxC (maxC O a.2.2.1) a.2.2.2) (maxC (maxC O b.2.2.1) b.2.2.2) = _
        rw [maxC_O p1, maxC_O q1, p4, q4]
      rw [e1, e2]; rfl
    · rw [if_pos h2, if_pos h2]
  · rw [if_pos h1, if_pos h1]
end Hy.Cel
