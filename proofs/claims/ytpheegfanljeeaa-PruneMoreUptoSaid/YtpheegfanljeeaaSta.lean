/- Stats: plain words and laws. No program in sight. -/
import Derived.Test.YtpheegfanljeeaaCgp
namespace Hy.Cel
abbrev O : Cel := (0, 0, ByteArray.empty)
/-- right: who is not there is nothing else -/
def ok (c : Cel) : Prop := c.1 = 0 → c = O
theorem alone_ok {kind : Int} {c : Cel} (h : alone kind c = 0) : ok c := by
  obtain ⟨k, n, s⟩ := c
  intro hk
  simp only at hk
  subst hk
  unfold alone at h
  simp only at h
  split at h
  · cases h
  · split at h
    · cases h
    · rename_i h2
      have hn : n = 0 := by omega
      have hs : s.size = 0 := by omega
      subst hn
      have : s = ByteArray.empty := by apply ByteArray.ext; exact Array.eq_empty_of_size_eq_zero hs
      rw [this]
theorem less_null_right (a b : Cel) (h : b.1 = 0) (hn : a.1 ≠ 0) : less a b = false := by
  unfold less; rw [if_neg (fun h' => hn h'.1), if_pos ⟨h, hn⟩]
theorem less_null_left (a b : Cel) (h : a.1 = 0) (hn : b.1 ≠ 0) : less a b = true := by
  unfold less; rw [if_pos ⟨h, hn⟩]
theorem less_asym {a b : Cel} (h : less a b = true) : less b a = false := by
  cases h' : less b a with
  | false => rfl
  | true => have := less_trans a b a h h'; rw [less_irrefl] at this; cases this
theorem eq_of_not {a b : Cel} (h1 : less a b = false) (h2 : less b a = false) : a = b := by
  by_cases h : a = b
  · exact h
  · rcases less_total a b h with h' | h' <;> simp_all
/-- a ≤ b, as not b < a -/
theorem le_trans' {a b c : Cel} (h1 : less b a = false) (h2 : less c b = false) : less c a = false := by
  cases h : less c a with
  | false => rfl
  | true =>
    by_cases e : a = b
    · subst e; rw [h] at h2; cases h2
    · rcases less_total a b e with h' | h'
      · have := less_trans c a b h h'; rw [this] at h2; cases h2
      · rw [h'] at h1; cases h1
def maxC (a b : Cel) : Cel := if less a b then b else a
def minC (a b : Cel) : Cel := if a.1 = 0 ∨ (b.1 ≠ 0 ∧ less b a = true) then b else a
theorem maxC_ok {a b : Cel} (ha : ok a) (hb : ok b) : ok (maxC a b) := by unfold maxC; split <;> assumption
theorem minC_ok {a b : Cel} (ha : ok a) (hb : ok b) : ok (minC a b) := by unfold minC; split <;> assumption
theorem ok_O : ok O := fun _ => rfl
theorem maxC_comm (a b : Cel) : maxC a b = maxC b a := by
  unfold maxC
  cases h1 : less a b <;> cases h2 : less b a
  · simp; exact eq_of_not h1 h2
  · simp
  · simp
  · rw [less_asym h1] at h2; cases h2
theorem maxC_assoc (a b c : Cel) : maxC (maxC a b) c = maxC a (maxC b c) := by
  unfold maxC
  cases h1 : less a b <;> cases h2 : less b c <;> simp only [Bool.false_eq_true, if_true, if_false, h1, h2]
  · have := le_trans' h2 h1
    simp [this]
  · have := less_trans a b c h1 h2
    simp [this]
theorem maxC_O {a : Cel} (h : ok a) : maxC O a = a := by
  unfold maxC
  by_cases h0 : a.1 = 0
  · rw [h h0, less_irrefl]; rfl
  · rw [less_null_left O a rfl h0]; rfl
theorem maxC_O' {a : Cel} (h : ok a) : maxC a O = a := by rw [maxC_comm, maxC_O h]
theorem maxC_self (a : Cel) : maxC a a = a := by unfold maxC; split <;> rfl
theorem minC_O {a : Cel} : minC O a = a := by unfold minC; rw [if_pos (.inl rfl)]
theorem minC_O' {a : Cel} (h : ok a) : minC a O = a := by
  unfold minC
  by_cases h0 : a.1 = 0
  · rw [if_pos (.inl h0), h h0]
  · rw [if_neg (by rintro (h | ⟨h, _⟩); exact h0 h; exact h rfl)]
theorem minC_self (a : Cel) : minC a a = a := by unfold minC; split <;> rfl
theorem minC_comm {a b : Cel} (ha : ok a) (hb : ok b) : minC a b = minC b a := by
  by_cases h1 : a.1 = 0
  · rw [ha h1, minC_O, minC_O' hb]
  · by_cases h2 : b.1 = 0
    · rw [hb h2, minC_O, minC_O' ha]
    · unfold minC
      cases h3 : less a b <;> cases h4 : less b a <;> simp [h1, h2]
      · exact (eq_of_not h3 h4)
      · rw [less_asym h3] at h4; cases h4
theorem minC_assoc {a b c : Cel} (ha : ok a) (hb : ok b) (hc : ok c) : minC (minC a b) c = minC a (minC b c) := by
  by_cases h1 : a.1 = 0
  · rw [ha h1, minC_O, minC_O]
  · by_cases h2 : b.1 = 0
    · rw [hb h2, minC_O, minC_O' ha]
    · by_cases h3 : c.1 = 0
      · rw [hc h3, minC_O' hb, minC_O' (minC_ok ha hb)]
      · unfold minC
        cases h4 : less b a <;> cases h5 : less c b
        · have := le_trans' h4 h5
          simp [h1, h2, h4, this]
        · simp [h1, h3]
        · simp [h1, h2, h4, h5]
        · have := less_trans c b a h5 h4
          simp [h1, h2, h3, h5, this]
def mn (l : List Cel) : Cel := l.foldl minC O
def mx (l : List Cel) : Cel := l.foldl maxC O
theorem fold_app' (f : Cel → Cel → Cel) (hf : ∀ a b c, ok a → ok b → ok c → f (f a b) c = f a (f b c)) (hk : ∀ a b, ok a → ok b → ok (f a b)) (h0 : ∀ a, ok a → f a O = a) (h1 : ∀ a, ok a → f O a = a) (m : List Cel) :
    ∀ (x : Cel), ok x → (∀ c ∈ m, ok c) → m.foldl f x = f x (m.foldl f O) ∧ ok (m.foldl f x) := by
  induction m with
  | nil => intro x hx _; exact ⟨(h0 x hx).symm, hx⟩
  | cons c m ih =>
    intro x hx hm
    have hc := hm c List.mem_cons_self
    have hm' := fun d hd => hm d (List.mem_cons_of_mem _ hd)
    obtain ⟨e1, o1⟩ := ih (f x c) (hk _ _ hx hc) hm'
    obtain ⟨e2, _⟩ := ih (f O c) (hk _ _ ok_O hc) hm'
    obtain ⟨_, o3⟩ := ih O ok_O hm'
    rw [List.foldl_cons, List.foldl_cons]
    exact ⟨by rw [e1, e2, h1 c hc, hf x c _ hx hc o3], o1⟩
theorem mn_app (l m : List Cel) (hl : ∀ c ∈ l, ok c) (hm : ∀ c ∈ m, ok c) : mn (l ++ m) = minC (mn l) (mn m) := by
  unfold mn
  rw [List.foldl_append]
  have h := fun x hx hm => fold_app' minC (fun a b c => minC_assoc) (fun a b => minC_ok) (fun a => minC_O') (fun a _ => minC_O) m x hx hm
  have h2 := fold_app' minC (fun a b c => minC_assoc) (fun a b => minC_ok) (fun a => minC_O') (fun a _ => minC_O) l O ok_O hl
  exact (h _ h2.2 hm).1
theorem mx_app (l m : List Cel) (hl : ∀ c ∈ l, ok c) (hm : ∀ c ∈ m, ok c) : mx (l ++ m) = maxC (mx l) (mx m) := by
  unfold mx
  rw [List.foldl_append]
  have h := fun x hx hm => fold_app' maxC (fun a b c _ _ _ => maxC_assoc a b c) (fun a b => maxC_ok) (fun a => maxC_O') (fun a => maxC_O) m x hx hm
  have h2 := fold_app' maxC (fun a b c _ _ _ => maxC_assoc a b c) (fun a b => maxC_ok) (fun a => maxC_O') (fun a => maxC_O) l O ok_O hl
  exact (h _ h2.2 hm).1
theorem mn_snoc (l : List Cel) (c : Cel) : mn (l ++ [c]) = minC (mn l) c := by unfold mn; rw [List.foldl_append]; rfl
theorem mx_snoc (l : List Cel) (c : Cel) : mx (l ++ [c]) = maxC (mx l) c := by unfold mx; rw [List.foldl_append]; rfl
theorem snoc_ind {P : List Cel → Prop} (h0 : P []) (h1 : ∀ l c, P l → P (l ++ [c])) (l : List Cel) : P l := by
  have : ∀ m : List Cel, P m.reverse := by
    intro m
    induction m with
    | nil => exact h0
    | cons c m ih => rw [List.reverse_cons]; exact h1 _ _ ih
  have := this l.reverse
  rwa [List.reverse_reverse] at this
/-- nothing that is there is less than the least -/
theorem mn_le (l : List Cel) (hl : ∀ c ∈ l, ok c) : ok (mn l) ∧ (∀ c ∈ l, c.1 ≠ 0 → (mn l).1 ≠ 0 ∧ less c (mn l) = false) ∧ ((mn l).1 ≠ 0 → mn l ∈ l) := by
  induction l using snoc_ind with
  | h0 => exact ⟨ok_O, by simp, fun h => absurd rfl h⟩
  | h1 l d ih =>
    obtain ⟨i1, i2, i3⟩ := ih fun c hc => hl c (by simp [hc])
    have hd := hl d (by simp)
    rw [mn_snoc]
    refine ⟨minC_ok i1 hd, fun c hc h0 => ?_, fun h => ?_⟩
    · rcases List.mem_append.1 hc with hc | hc
      · obtain ⟨j1, j2⟩ := i2 c hc h0
        unfold minC
        split
        · rename_i h
          rcases h with h | ⟨h, h'⟩
          · exact absurd h j1
          · exact ⟨h, le_trans' (less_asym h') j2⟩
        · exact ⟨j1, j2⟩
      · simp at hc; subst hc
        unfold minC
        split
        · exact ⟨h0, less_irrefl c⟩
        · rename_i h
          refine ⟨fun h' => h (.inl h'), ?_⟩
          cases h2 : less c (mn l) with
          | false => rfl
          | true => exact absurd (.inr ⟨h0, h2⟩) h
    · unfold minC at h ⊢
      split at h
      · rename_i h'; rw [if_pos h']; simp
      · rename_i h'; rw [if_neg h']; exact List.mem_append_left _ (i3 h)
theorem mx_ge (l : List Cel) (hl : ∀ c ∈ l, ok c) : ok (mx l) ∧ (∀ c ∈ l, c.1 ≠ 0 → (mx l).1 ≠ 0 ∧ less (mx l) c = false) ∧ ((mx l).1 ≠ 0 → mx l ∈ l) := by
  induction l using snoc_ind with
  | h0 => exact ⟨ok_O, by simp, fun h => absurd rfl h⟩
  | h1 l d ih =>
    obtain ⟨i1, i2, i3⟩ := ih fun c hc => hl c (by simp [hc])
    have hd := hl d (by simp)
    rw [mx_snoc]
    refine ⟨maxC_ok i1 hd, fun c hc h0 => ?_, fun h => ?_⟩
    · rcases List.mem_append.1 hc with hc | hc
      · obtain ⟨j1, j2⟩ := i2 c hc h0
        unfold maxC
        split
        · rename_i h
          refine ⟨fun h' => ?_, le_trans' j2 (less_asym h)⟩
          have := less_null_right (mx l) d h' j1
          rw [this] at h; cases h
        · exact ⟨j1, j2⟩
      · simp at hc; subst hc
        unfold maxC
        split
        · exact ⟨h0, less_irrefl c⟩
        · rename_i h
          refine ⟨fun h' => ?_, by simpa using h⟩
          have := less_null_left (mx l) c h' h0
          exact h this
    · unfold maxC at h ⊢
      split at h
      · rename_i h'; rw [if_pos h']; simp
      · rename_i h'; rw [if_neg h']; exact List.mem_append_left _ (i3 h)
end Hy.Cel
