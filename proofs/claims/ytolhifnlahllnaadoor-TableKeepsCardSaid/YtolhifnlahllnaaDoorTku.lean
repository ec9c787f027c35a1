/- TableKeeps: walk (printed by gen_tku.py). -/
import Derived.Test.YtolhifnlahllnaaDoorTkq
import Derived.Test.YtolhifnlahllnaaDoorTly
section
namespace Hy
open Go Go.RowKit
section
variable {P : Program} {ops : Array Oper} {md : Region.Mode} {Q : Exit → Act → World → Prop} {w0 : World} {ls : List Nat}
/-- where an operation of the region puts its value -/
def dstOf (ops : Array Oper) (k : Nat) : Option Tmp := (ops[k]?).bind (·.dst)
/-- those of L that f tells of have put their values -/
def putF (ops : Array Oper) (f : Nat → Bool) (v : Nat → Value) : List Nat → Act → Act
  | [], a => a
  | k :: r, a => putF ops f v r (if f k = true then a.put (dstOf ops k) (v k) else a)
def putAll (ops : Array Oper) (v : Nat → Value) : List Nat → Act → Act
  | [], a => a
  | k :: r, a => putAll ops v r (a.put (dstOf ops k) (v k))
def updB (f : Nat → Bool) (i : Nat) : Nat → Bool := fun k => if k = i then true else f k
def updV (v : Nat → Value) (i : Nat) (u : Value) : Nat → Value := fun k => if k = i then u else v k
def valD (d : Option Tmp) (a : Act) : Value := match d with | some d => a.eval (.tmp d) | none => undef
theorem updB_at (f : Nat → Bool) (i : Nat) : updB f i i = true := if_pos rfl
theorem updB_ne {f : Nat → Bool} {i k : Nat} (h : k ≠ i) : updB f i k = f k := if_neg h
theorem updV_at (v : Nat → Value) (i : Nat) (u : Value) : updV v i u i = u := if_pos rfl
theorem updV_ne {v : Nat → Value} {i k : Nat} {u : Value} (h : k ≠ i) : updV v i u k = v k := if_neg h
def noP (Q : Exit → Act → World → Prop) : Exit → Act → World → Prop
  | .panic _, _, _ => False
  | e, a, w => Q e a w
theorem putAll_F (v : Nat → Value) : ∀ (L : List Nat) (a : Act), putAll ops v L a = putF ops (fun _ => true) v L a
  | [], _ => rfl
  | _ :: r, _ => putAll_F v r _
theorem put_size (a : Act) (d : Option Tmp) (u : Value) : (a.put d u).tmps.size = a.tmps.size := by
  cases d <;> simp [Act.put]
theorem put_defers (a : Act) (d : Option Tmp) (u : Value) : (a.put d u).defers = a.defers := by
  cases d <;> rfl
theorem putF_size (f : Nat → Bool) (v : Nat → Value) : ∀ (L : List Nat) (a : Act), (putF ops f v L a).tmps.size = a.tmps.size
  | [], _ => rfl
  | k :: r, a => by
    unfold putF
    rw [putF_size f v r]
    split
    · exact put_size _ _ _
    · rfl
theorem putF_defers (f : Nat → Bool) (v : Nat → Value) : ∀ (L : List Nat) (a : Act), (putF ops f v L a).defers = a.defers
  | [], _ => rfl
  | k :: r, a => by
    unfold putF
    rw [putF_defers f v r]
    split
    · exact put_defers _ _ _
    · rfl
theorem evalF_out {f : Nat → Bool} {v : Nat → Value} {x : Operand} : ∀ (L : List Nat) (a : Act), (∀ k ∈ L, f k = true → ∀ d, dstOf ops k = some d → x ≠ .tmp d) → (putF ops f v L a).eval x = a.eval x
  | [], _, _ => rfl
  | k :: r, a, h => by
    unfold putF
    rw [evalF_out r _ (fun j hj => h j (List.mem_cons_of_mem _ hj))]
    split
    · next hk => exact Act.eval_put fun d hd => h k (by simp) hk d hd
    · rfl
theorem eval_at (a : Act) (d : Tmp) (u : Value) (h : d < a.tmps.size) : (a.put (some d) u).eval (.tmp d) = u := by
  simp [Act.eval, Act.put, h]
theorem evalF_in {f : Nat → Bool} {v : Nat → Value} {k : Nat} {d : Tmp} (hf : f k = true) (hd : dstOf ops k = some d) : ∀ (L : List Nat) (a : Act), k ∈ L → d < a.tmps.size → (∀ j ∈ L, j ≠ k → dstOf ops j ≠ some d) → (putF ops f v L a).eval (.tmp d) = v k
  | [], _, hk, _, _ => by cases hk
  | j :: r, a, hk, hs, hj => by
    unfold putF
    have hr : ∀ i ∈ r, i ≠ k → dstOf ops i ≠ some d := fun i hi => hj i (List.mem_cons_of_mem _ hi)
    by_cases hkr : k ∈ r
    · refine evalF_in hf hd r _ hkr ?_ hr
      split
      · rw [put_size]; exact hs
      · exact hs
    · have e : k = j := by
        rcases List.mem_cons.1 hk with h | h
        · exact h
        · exact absurd h hkr
      subst e
      rw [if_pos hf, evalF_out r _ (fun i hi _ d' hd' e => by
        have : d = d' := by injection e
        subst this
        exact hr i hi (fun e2 => hkr (e2 ▸ hi)) hd'), hd]
      exact eval_at a d _ hs
theorem putF_put {f : Nat → Bool} {v : Nat → Value} {x : Option Tmp} {u : Value} : ∀ (L : List Nat) (a : Act), (∀ k ∈ L, ∀ d, x = some d → dstOf ops k ≠ some d) → putF ops f v L (a.put x u) = (putF ops f v L a).put x u
  | [], _, _ => rfl
  | k :: r, a, h => by
    unfold putF
    rw [← putF_put r _ (fun j hj => h j (List.mem_cons_of_mem _ hj))]
    split
    · rw [Act.put_comm a u (v k) (h k (by simp))]
    · rfl
theorem putF_congr {f g : Nat → Bool} {v v' : Nat → Value} : ∀ (L : List Nat) (a : Act), (∀ k ∈ L, f k = g k ∧ (f k = true → v k = v' k)) → putF ops f v L a = putF ops g v' L a
  | [], _, _ => rfl
  | k :: r, a, h => by
    unfold putF
    obtain ⟨h1, h2⟩ := h k (by simp)
    rw [← h1]
    by_cases hf : f k = true
    · rw [if_pos hf, if_pos hf, h2 hf]; exact putF_congr r _ (fun j hj => h j (List.mem_cons_of_mem _ hj))
    · rw [if_neg hf, if_neg hf]; exact putF_congr r _ (fun j hj => h j (List.mem_cons_of_mem _ hj))
theorem putF_set {f : Nat → Bool} {v : Nat → Value} {i : Nat} {u : Value} (hf : f i = false) : ∀ (L : List Nat) (a : Act), L.Nodup → i ∈ L → (∀ j ∈ L, j ≠ i → ∀ d, dstOf ops i = some d → dstOf ops j ≠ some d) →
    (putF ops f v L a).put (dstOf ops i) u = putF ops (updB f i) (updV v i u) L a
  | [], _, _, hi, _ => by cases hi
  | k :: r, a, hn, hi, hd => by
    obtain ⟨hkr, hnr⟩ := List.nodup_cons.1 hn
    unfold putF
    by_cases hki : k = i
    · subst hki
      rw [if_neg (by rw [hf]; decide), if_pos (updB_at f k), updV_at]
      rw [← putF_put r a (fun j hj d hdd => hd j (List.mem_cons_of_mem _ hj) (fun e => hkr (e ▸ hj)) d hdd)]
      refine putF_congr r _ fun j hj => ?_
      have hne : j ≠ k := fun e => hkr (e ▸ hj)
      exact ⟨(updB_ne hne).symm, fun _ => (updV_ne hne).symm⟩
    · have hir : i ∈ r := by
        rcases List.mem_cons.1 hi with h | h
        · exact absurd h.symm hki
        · exact h
      rw [putF_set hf r _ hnr hir (fun j hj => hd j (List.mem_cons_of_mem _ hj)), updB_ne hki, updV_ne hki]
theorem wp_moved {o : Oper} {a A : Act} {K K' : Act → World → Prop} {w : World} (he : execOp A.eval o = execOp a.eval o)
    (h : o.wp P A w (fun a' w' => a'.defers = A.defers ∧ K a' w') (noP Q)) (hK : ∀ u w', K (A.put o.dst u) w' → K' (a.put o.dst u) w') : o.wp P a w K' Q := by
  unfold Oper.wp at *
  rw [he] at h
  generalize (execOp a.eval o).run P w = r at *
  cases r with
  | ok n w' =>
    cases n
    case value u => exact hK _ _ h.2
    case skip => exact hK _ _ h.2
    case defer d =>
      exfalso
      have h1 := h.1
      rw [put_defers] at h1
      have := congrArg List.length h1
      simp at this
    case enter f args =>
      refine Calls.mono h fun e w2 he2 => ?_
      cases e with
      | returned u => exact hK _ _ he2.2
      | panicked c => exact he2.elim
      | outgrown => exact he2
    case row r args => exact Rows.mono h fun u w2 h2 => hK _ _ h2.2
    all_goals exact (show False from h).elim
  | halt x w' => cases x <;> first | exact h | exact h.elim
/-- what one operation must do -/
def stepI (P : Program) (ops : Array Oper) (Q : Exit → Act → World → Prop) (w0 : World) (ls : List Nat) (C : List (Nat × List Nat)) (Inv : (Nat → Bool) → (Nat → Value) → World → Prop) (aH : Act) (i : Nat) (ds : List Nat) (o : Oper) : Prop :=
  ∀ f v w, f i = false → (∀ k ∈ ds, f k = true) → (∀ x ∈ C, f x.1 = true → ∀ k ∈ x.2, f k = true) → Inv f v w → ∀ K : Act → World → Prop,
    (∀ a' w', a'.defers = aH.defers → (ls.contains i = false → Ext w0 w → Ext w0 w') → Inv (updB f i) (updV v i (valD o.dst a')) w' → K a' w') → o.wp P (putAll ops v ds aH) w K (noP Q)
def stepsI (P : Program) (ops : Array Oper) (Q : Exit → Act → World → Prop) (w0 : World) (ls : List Nat) (C : List (Nat × List Nat)) (Inv : (Nat → Bool) → (Nat → Value) → World → Prop) (aH : Act) : List (Nat × List Nat × Oper) → Prop
  | [] => True
  | (i, ds, o) :: r => stepI P ops Q w0 ls C Inv aH i ds o ∧ stepsI P ops Q w0 ls C Inv aH r
def calm : Op → Bool
  | .select .. => false
  | _ => true
def topoB (md : Region.Mode) (ops : Array Oper) (L : List Nat) : List Nat → List Nat → Bool
  | [], _ => true
  | i :: r, seen => (match ops[i]? with
      | none => false
      | some o => o.after.all fun e => !Region.binds md e || (decide (e.on < ops.size) && !L.contains e.on) || seen.contains e.on) && topoB md ops L r (i :: seen)
def checkI (md : Region.Mode) (ops : Array Oper) (D : List (Nat × List Nat)) : Bool :=
  (D.all fun x => match ops[x.1]? with
    | none => false
    | some o => o.guard.isNone && calm o.op && (x.2.all fun k => (D.map (·.1)).contains k && o.after.any fun e => Region.binds md e && e.on == k) &&
        ((D.map (·.1)).all fun k => x.2.contains k || (match dstOf ops k with | none => true | some d => !(o.looksAt ops).contains d))) &&
  ((D.map (·.1)).all fun i => (D.map (·.1)).all fun j => i == j || (match dstOf ops i with | none => true | some d => dstOf ops j != some d)) &&
  topoB md ops (D.map (·.1)) (D.map (·.1)) [] && decide (D.map (·.1)).Nodup
theorem steps_mem {C : List (Nat × List Nat)} {Inv : (Nat → Bool) → (Nat → Value) → World → Prop} {aH : Act} : ∀ (D : List (Nat × List Nat)), stepsI P ops Q w0 ls C Inv aH (D.filterMap fun x => (ops[x.1]?).map fun o => (x.1, x.2, o)) →
    ∀ x ∈ D, ∀ o, ops[x.1]? = some o → stepI P ops Q w0 ls C Inv aH x.1 x.2 o
  | [], _, x, hx, _, _ => by cases hx
  | y :: r, h, x, hx, o, ho => by
    cases hy : ops[y.1]? with
    | none =>
      have hl : (y :: r).filterMap (fun x => (ops[x.1]?).map fun o => (x.1, x.2, o)) = r.filterMap (fun x => (ops[x.1]?).map fun o => (x.1, x.2, o)) := by simp [hy]
      rw [hl] at h
      rcases List.mem_cons.1 hx with e | e
      · subst e; rw [hy] at ho; cases ho
      · exact steps_mem r h x e o ho
    | some oy =>
      have hl : (y :: r).filterMap (fun x => (ops[x.1]?).map fun o => (x.1, x.2, o)) = (y.1, y.2, oy) :: r.filterMap (fun x => (ops[x.1]?).map fun o => (x.1, x.2, o)) := by simp [hy]
      rw [hl] at h
      rcases List.mem_cons.1 hx with e | e
      · subst e; rw [hy] at ho; cases ho; exact h.1
      · exact steps_mem r h.2 x e o ho
theorem topo_ready {L : List Nat} {s : Array Bool} : ∀ (R seen : List Nat), topoB md ops L R seen = true → (∀ k ∈ seen, s.getD k false = true) → (∀ i, i < ops.size → i ∉ L → s.getD i false = true) → (∀ k ∈ L, k ∈ R ∨ k ∈ seen) →
    s.size = ops.size → (∃ i ∈ R, s.getD i false = false) → ∃ i, i ∈ Region.ready md ops s
  | [], _, _, _, _, _, _, ⟨i, hi, _⟩ => by cases hi
  | i :: r, seen, hB, hs, hn, hL, hz, hex => by
    unfold topoB at hB
    rw [Bool.and_eq_true] at hB
    obtain ⟨h1, h2⟩ := hB
    cases ho : ops[i]? with
    | none => rw [ho] at h1; cases h1
    | some o =>
      rw [ho] at h1
      have hlt : i < ops.size := by
        rcases Nat.lt_or_ge i ops.size with h | h
        · exact h
        · rw [Array.getElem?_eq_none h] at ho; cases ho
      cases hd : s.getD i false with
      | false =>
        refine ⟨i, mem_ready.2 ⟨?_, o, ho, fun e he hb => ?_⟩⟩
        · have hlt' : i < s.size := by omega
          simp only [Array.getD, hlt', dif_pos] at hd ⊢; exact hd
        · have h3 := (Array.all_eq_true'.1 h1) e he
          rw [hb] at h3
          simp only [Bool.not_true, Bool.false_or, Bool.or_eq_true, Bool.and_eq_true, Bool.not_eq_true', List.contains_eq_mem, decide_eq_false_iff_not, decide_eq_true_eq] at h3
          rcases h3 with h3 | h3
          · exact hn _ h3.1 h3.2
          · exact hs _ h3
      | true =>
        obtain ⟨j, hj, hjf⟩ := hex
        refine topo_ready r (i :: seen) h2 (fun k hk => ?_) hn (fun k hk => ?_) hz ⟨j, ?_, hjf⟩
        · rcases List.mem_cons.1 hk with e | e
          · subst e; exact hd
          · exact hs k e
        · rcases hL k hk with h | h
          · rcases List.mem_cons.1 h with e | e
            · right; subst e; simp
            · left; exact e
          · right; exact List.mem_cons_of_mem _ h
        · rcases List.mem_cons.1 hj with e | e
          · subst e; rw [hd] at hjf; cases hjf
          · exact e
def left (s : Array Bool) : List Nat → Nat
  | [] => 0
  | k :: r => (if s.getD k false = true then 0 else 1) + left s r
theorem left_zero {s : Array Bool} : ∀ (L : List Nat), left s L = 0 → ∀ k ∈ L, s.getD k false = true
  | [], _, _, hk => by cases hk
  | j :: r, h, k, hk => by
    unfold left at h
    rcases List.mem_cons.1 hk with e | e
    · subst e
      by_cases h1 : s.getD k false = true
      · exact h1
      · rw [if_neg h1] at h; omega
    · exact left_zero r (by omega) k e
theorem left_le {s : Array Bool} {i : Nat} : ∀ (L : List Nat), left (s.setIfInBounds i true) L ≤ left s L
  | [] => Nat.le_refl _
  | k :: r => by
    unfold left
    have := left_le (s := s) (i := i) r
    by_cases h1 : s.getD k false = true
    · rw [if_pos h1, if_pos (set_mono h1)]; omega
    · rw [if_neg h1]; split <;> omega
theorem set_at {s : Array Bool} {i : Nat} (h : i < s.size) : (s.setIfInBounds i true).getD i false = true := by simp [h]
theorem left_set {s : Array Bool} {i : Nat} (hi : s.getD i false = false) (hz : i < s.size) : ∀ (L : List Nat), i ∈ L → left (s.setIfInBounds i true) L < left s L
  | [], h => by cases h
  | k :: r, h => by
    unfold left
    by_cases hk : k = i
    · subst hk
      have := left_le (s := s) (i := k) r
      rw [if_pos (set_at hz), if_neg (by rw [hi]; decide)]; omega
    · have hir : i ∈ r := by
        rcases List.mem_cons.1 h with e | e
        · exact absurd e.symm hk
        · exact e
      have := left_set hi hz r hir
      by_cases h1 : s.getD k false = true
      · rw [if_pos h1, if_pos (set_mono h1)]; omega
      · rw [if_neg h1]; split <;> omega
theorem inv_any {D : List (Nat × List Nat)} {aH : Act} {Inv : (Nat → Bool) → (Nat → Value) → World → Prop} (hsel : Region.noSelect ops = true) (hC : checkI md ops D = true)
    (hsz : ∀ k ∈ D.map (·.1), ∀ d, dstOf ops k = some d → d < aH.tmps.size)
    (hst : stepsI P ops Q w0 ls D Inv aH (D.filterMap fun x => (ops[x.1]?).map fun o => (x.1, x.2, o)))
    (hend : ∀ f v w, (∀ k ∈ D.map (·.1), f k = true) → Inv f v w → Q .normal (putAll ops v (D.map (·.1)) aH) w) :
    ∀ (n : Nat) (s : Array Bool) (f : Nat → Bool) (v : Nat → Value) (w : World), s.size = ops.size → left s (D.map (·.1)) ≤ n → (∀ i, i < ops.size → i ∉ D.map (·.1) → s.getD i false = true) →
      (∀ k ∈ D.map (·.1), f k = s.getD k false) → (∀ x ∈ D, f x.1 = true → ∀ k ∈ x.2, f k = true) → Inv f v w → wpAnyU P md ops Q (Ext w0) (fun _ => True) ls n s (putF ops f v (D.map (·.1)) aH) w := by
  have hsel' := Region.noSelect_spec hsel
  unfold checkI at hC
  simp only [Bool.and_eq_true, List.all_eq_true, decide_eq_true_eq] at hC
  obtain ⟨⟨⟨hC1, hC2⟩, hC3⟩, hC4⟩ := hC
  have hdis : ∀ i ∈ D.map (·.1), ∀ j ∈ D.map (·.1), j ≠ i → ∀ d, dstOf ops i = some d → dstOf ops j ≠ some d := fun i hi j hj hne d hd => by
    have := hC2 i hi j hj
    rw [hd] at this
    simp only [Bool.or_eq_true, beq_iff_eq, bne_iff_ne] at this
    rcases this with e | e
    · exact absurd e.symm hne
    · exact e
  have done : ∀ (s : Array Bool) (f : Nat → Bool) (v : Nat → Value) (w : World), left s (D.map (·.1)) = 0 → (∀ k ∈ D.map (·.1), f k = s.getD k false) → Inv f v w → Q .normal (putF ops f v (D.map (·.1)) aH) w := fun s f v w h0 hf hI => by
    have h1 : ∀ k ∈ D.map (·.1), f k = true := fun k hk => (hf k hk).trans (left_zero _ h0 k hk)
    have h2 := hend f v w h1 hI
    rw [putAll_F] at h2
    rw [putF_congr (g := fun _ => true) (v' := v) _ _ (fun k hk => ⟨h1 k hk, fun _ => rfl⟩)]
    exact h2
  have mem : ∀ (s : Array Bool) (j : Nat), s.size = ops.size → (∀ i, i < ops.size → i ∉ D.map (·.1) → s.getD i false = true) → j ∈ Region.ready md ops s → j ∈ D.map (·.1) ∧ s.getD j false = false ∧ j < s.size := fun s j hz hn hj => by
    obtain ⟨h1, o, ho, _⟩ := mem_ready.1 hj
    have hlt : j < ops.size := by
      rcases Nat.lt_or_ge j ops.size with h | h
      · exact h
      · rw [Array.getElem?_eq_none h] at ho; cases ho
    have hlt' : j < s.size := by omega
    have h2 : s.getD j false = false := by
      simp only [Array.getD, hlt', dif_pos] at h1 ⊢; exact h1
    refine ⟨Classical.byContradiction fun hm => ?_, h2, hlt'⟩
    rw [hn j hlt hm] at h2; cases h2
  intro n
  induction n with
  | zero =>
    intro s f v w hz hl hn hf hcl hI
    have h0 : left s (D.map (·.1)) = 0 := by omega
    refine ⟨List.eq_nil_iff_forall_not_mem.2 fun j hj => ?_, done s f v w h0 hf hI⟩
    obtain ⟨h1, h2, _⟩ := mem s j hz hn hj
    rw [left_zero _ h0 j h1] at h2; cases h2
  | succ n ih =>
    intro s f v w hz hl hn hf hcl hI
    refine ⟨fun hr => ?_, fun i hi => ?_⟩
    · by_cases h0 : left s (D.map (·.1)) = 0
      · exact done s f v w h0 hf hI
      · exfalso
        have hex : ∃ i ∈ D.map (·.1), s.getD i false = false := Classical.byContradiction fun hne => h0 (by
          have : ∀ (L : List Nat), (∀ k ∈ L, s.getD k false = true) → left s L = 0 := fun L => by
            induction L with
            | nil => intro _; rfl
            | cons k r ih2 =>
              intro h
              unfold left
              rw [if_pos (h k (by simp)), ih2 (fun j hj => h j (List.mem_cons_of_mem _ hj))]
          refine this _ fun k hk => ?_
          cases hd : s.getD k false with
          | true => rfl
          | false => exact absurd ⟨k, hk, hd⟩ hne)
        obtain ⟨j, hj⟩ := topo_ready (D.map (·.1)) [] hC3 (fun k hk => by cases hk) hn (fun k hk => .inl hk) hz hex
        rw [hr] at hj; cases hj
    · obtain ⟨him, hif, hilt⟩ := mem s i hz hn hi
      obtain ⟨_, o, ho, hdeps⟩ := mem_ready.1 hi
      obtain ⟨x, hx, hxi⟩ := List.mem_map.1 him
      have hc := hC1 x hx
      rw [hxi, ho] at hc
      simp only [Bool.and_eq_true, List.all_eq_true] at hc
      obtain ⟨⟨⟨hg, hcalm⟩, hds⟩, hlook⟩ := hc
      have hg' : o.guard = none := by cases hgo : o.guard with
        | none => rfl
        | some g => rw [hgo] at hg; cases hg
      have hwt : Region.wanted o (yielded ops (putF ops f v (D.map (·.1)) aH).tmps) = true := by unfold Region.wanted; rw [hg']
      have hfi : f i = false := (hf i him).trans hif
      have hfd : ∀ k ∈ x.2, f k = true := fun k hk => by
        obtain ⟨h1, h2⟩ := hds k hk
        have h1 : k ∈ D.map (·.1) := by simpa using h1
        obtain ⟨e, he, h3⟩ := Array.any_eq_true'.1 h2
        simp only [Bool.and_eq_true, beq_iff_eq] at h3
        rw [hf k h1, ← h3.2]
        exact hdeps e he h3.1
      have hstep := steps_mem D hst x hx o (by rw [hxi]; exact ho)
      rw [hxi] at hstep
      have hw := hstep f v w hfi hfd hcl hI (fun a' w' => a'.defers = (putAll ops v x.2 aH).defers ∧ ((ls.contains i = false → Ext w0 w → Ext w0 w') ∧ Inv (updB f i) (updV v i (valD o.dst a')) w')) (fun a' w' h1 h2 h3 => ⟨by rw [putAll_F, putF_defers]; exact h1, h2, h3⟩)
      have hev : execOp (putAll ops v x.2 aH).eval o = execOp (putF ops f v (D.map (·.1)) aH).eval o := by
        refine execOp_congr o (fun cs b => hsel' i o cs b ho) fun y hy => ?_
        have hout : ∀ k ∈ D.map (·.1), k ∉ x.2 → ∀ d, dstOf ops k = some d → y ≠ .tmp d := fun k hk hk2 d hd e => by
          have := hlook k hk
          rw [hd] at this
          simp only [Bool.or_eq_true, List.contains_eq_mem, decide_eq_true_eq, Bool.not_eq_true', decide_eq_false_iff_not] at this
          rcases this with h | h
          · exact hk2 h
          · subst e
            exact h (List.mem_append_left _ (List.mem_filterMap.2 ⟨.tmp d, by simpa using hy, rfl⟩))
        rw [putAll_F]
        by_cases hq : ∃ k ∈ x.2, ∃ d, dstOf ops k = some d ∧ y = .tmp d
        · obtain ⟨k, hk, d, hd, rfl⟩ := hq
          have hkm : k ∈ D.map (·.1) := by simpa using (hds k hk).1
          rw [evalF_in rfl hd x.2 aH hk (hsz k hkm d hd) (fun j hj hne => hdis k hkm j (by simpa using (hds j hj).1) hne d hd)]
          rw [evalF_in (hfd k hk) hd (D.map (·.1)) aH hkm (hsz k hkm d hd) (fun j hj hne => hdis k hkm j hj hne d hd)]
        · rw [evalF_out x.2 aH (fun k hk _ d hd e => hq ⟨k, hk, d, hd, e⟩)]
          rw [evalF_out (D.map (·.1)) aH (fun k hk _ d hd e => by
            by_cases hk2 : k ∈ x.2
            · exact hq ⟨k, hk2, d, hd, e⟩
            · exact hout k hk hk2 d hd e)]
      unfold wpOp
      simp only [ho, hwt, if_true]
      refine .inl (wp_moved hev hw fun u w' hh => ?_)
      obtain ⟨hE', hI'⟩ := hh
      refine ⟨⟨hE', fun _ => trivial⟩, ?_⟩
      have hset : (putF ops f v (D.map (·.1)) aH).put o.dst u = putF ops (updB f i) (updV v i (valD o.dst ((putAll ops v x.2 aH).put o.dst u))) (D.map (·.1)) aH := by
        have hdo : dstOf ops i = o.dst := by unfold dstOf; rw [ho]; rfl
        have h1 := putF_set (v := v) (u := valD o.dst ((putAll ops v x.2 aH).put o.dst u)) hfi (D.map (·.1)) aH hC4 him (fun j hj hne d hd => hdis i him j hj hne d hd)
        rw [← h1, hdo]
        cases hod : o.dst with
        | none => rfl
        | some d =>
          congr 1
          simp only [valD]
          rw [eval_at _ _ _ (by rw [putAll_F, putF_size]; exact hsz i him d (hdo.trans hod))]
      rw [hset]
      refine ih (s.setIfInBounds i true) _ _ w' (by simp [hz]) ?_ ?_ ?_ ?_ hI'
      · have := left_set hif hilt (D.map (·.1)) him
        omega
      · exact fun j hj hjm => set_mono (hn j hj hjm)
      · intro k hk
        by_cases hki : k = i
        · subst hki; rw [updB_at, set_at hilt]
        · rw [updB_ne hki, hf k hk]
          simp only [Array.getD_eq_getD_getElem?, Array.getElem?_setIfInBounds_ne (Ne.symm hki)]
      · intro y hy hyf k hk
        by_cases hyi : y.1 = i
        · by_cases hki : k = i
          · subst hki; exact updB_at _ _
          · rw [updB_ne hki]
            have hdsy := (List.all_eq_true.1 (by
              have hc := hC1 y hy
              rw [hyi, ho] at hc
              simp only [Bool.and_eq_true] at hc
              exact hc.1.2)) k hk
            rw [Bool.and_eq_true] at hdsy
            obtain ⟨e, he, h3⟩ := Array.any_eq_true'.1 hdsy.2
            simp only [Bool.and_eq_true, beq_iff_eq] at h3
            have hkm : k ∈ D.map (·.1) := by simpa using hdsy.1
            rw [hf k hkm, ← h3.2]
            exact hdeps e he h3.1
        · rw [updB_ne hyi] at hyf
          have := hcl y hy hyf k hk
          by_cases hki : k = i
          · subst hki; exact updB_at _ _
          · rw [updB_ne hki]; exact this
/-- the plan: what is read, first; then the rest, as it comes -/
def planQ (md : Region.Mode) (ops : Array Oper) (ls : List Nat) (D : List (Nat × List Nat)) : List Nat → Array Bool → Bool
  | [], s => (s.size == ops.size) && (List.range ops.size).all fun k => s.getD k false == !(D.map (·.1)).contains k
  | i :: r, s => (match ops[i]? with
      | none => false
      | some oi => (Region.ready md ops s).contains i && valOp oi.op && Region.free md ops s i && lateB md ops ls i) && planQ md ops ls D r (s.setIfInBounds i true)
def wpQ (P : Program) (ops : Array Oper) (w0 : World) (R : Act → Prop) : List Oper → Act → Prop
  | [], a => R a
  | o :: r, a => if Region.wanted o (yielded ops a.tmps) then o.quiet P a (fun w' => ∃ p : Regrown, w' = Go.Sort.grow (redrawn w0 p.d) p.os) (wpQ P ops w0 R r) else wpQ P ops w0 R r (a.put o.dst undef)
theorem wpQ_nil {R : Act → Prop} {a : Act} (h : R a) : wpQ P ops w0 R [] a := h
theorem wpQ_val {R : Act → Prop} {a : Act} {o : Oper} {r : List Oper} (hw : Region.wanted o (yielded ops a.tmps) = true)
    (h : ∀ K : Act → Prop, (∀ a, wpQ P ops w0 R r a → K a) → o.quiet P a (fun w' => ∃ p : Regrown, w' = Go.Sort.grow (redrawn w0 p.d) p.os) K) : wpQ P ops w0 R (o :: r) a := by
  unfold wpQ; rw [if_pos hw]; exact h _ fun _ h => h
theorem plq {D : List (Nat × List Nat)} {R : Act → Prop} {w : World} (hsel : Region.noSelect ops = true) (hQ : ∀ c a x v w, Q (.panic c) (Act.put a (some x) v) w → Q (.panic c) a w) (he : Ext w0 w) (n : Nat)
    (hR : ∀ s a, planQ md ops ls D [] s = true → R a → wpAnyU P md ops Q (Ext w0) (fun _ => True) ls n s a w) :
    ∀ (hs : List Nat) (s : Array Bool) (a : Act), planQ md ops ls D hs s = true → Closed md ops s → wpQ P ops w0 R (hs.filterMap fun i => ops[i]?) a → wpAnyU P md ops Q (Ext w0) (fun _ => True) ls (n + hs.length) s a w := by
  have hsel' := Region.noSelect_spec hsel
  have hQ' : ∀ c a x v w, Q (.panic c) (Act.put a x v) w → Q (.panic c) a w := fun c a x v w h => by
    cases x with
    | none => exact h
    | some x => exact hQ c a x v w h
  intro hs
  induction hs with
  | nil => intro s a hB _ H; exact hR s a hB H
  | cons i r ih =>
    intro s a hB hcl H
    unfold planQ at hB
    cases hi : ops[i]? with
    | none => rw [hi] at hB; simp at hB
    | some oi =>
      rw [hi] at hB
      simp only [Bool.and_eq_true] at hB
      obtain ⟨⟨⟨⟨hri, hv⟩, hf⟩, hlt⟩, hrest⟩ := hB
      have hri' : i ∈ Region.ready md ops s := by simpa using hri
      have hlist : (i :: r).filterMap (fun i => ops[i]?) = oi :: r.filterMap (fun i => ops[i]?) := by simp [hi]
      rw [hlist] at H
      unfold wpQ at H
      have main : ∃ v, YieldsIf P ops (Ext w0) oi v a ∧ wpQ P ops w0 R (r.filterMap fun i => ops[i]?) (a.put oi.dst v) := by
        by_cases hw : Region.wanted oi (yielded ops a.tmps) = true
        · rw [if_pos hw] at H
          obtain ⟨u, hu, hG⟩ := H
          refine ⟨u, .inl ⟨hw, fun w1 he => ?_⟩, hG⟩
          have h1 := hu w1 (cl_of he)
          unfold Oper.quietAt at h1
          cases hr : (execOp a.eval oi).run P w1 with
          | halt x w2 => rw [hr] at h1; exact h1.elim
          | ok nx w2 =>
            obtain ⟨u', rfl⟩ := valOp_value hv hr
            rw [hr] at h1
            simp only [Oper.quietUpon] at h1
            rw [h1.1, h1.2]
        · rw [if_neg hw] at H
          exact ⟨undef, .inr ⟨by simpa using hw, rfl⟩, H⟩
      obtain ⟨v, hy, hG⟩ := main
      exact wpAnyU_first hi hsel' (fun c a w h => hQ' c a _ _ w h) hlt _ _ _ _ hcl (Region.free_spec hi hf) hri' hy he (ih _ _ hrest (hcl.set hri') hG)
/-- **A region that draws its order**: hs are read first; each of D is walked once, from what its D-list has left -/
theorem wp_region_inv {id : Nat} {a : Act} {w : World} {l : List Oper} (ls hs : List Nat) (D : List (Nat × List Nat))
    (hm : P.follows .mixedOrders = true) (hsel : Region.noSelect l.toArray = true)
    (hQ : ∀ c a x v w, Q (.panic c) (Act.put a (some x) v) w → Q (.panic c) a w)
    (hB : planQ .any l.toArray ls D hs (Array.replicate l.toArray.size false) = true) (hC : checkI .any l.toArray D = true) (hn : l.length = D.length + hs.length)
    (h : wpQ P l.toArray w (fun aH => ∃ Inv : (Nat → Bool) → (Nat → Value) → World → Prop,
      ((D.map (·.1)).all fun k => match dstOf l.toArray k with | none => true | some d => decide (d < aH.tmps.size)) = true ∧
      Inv (fun _ => false) (fun _ => undef) w.drew ∧
      stepsI P l.toArray Q w ls D Inv aH (D.filterMap fun x => (l.toArray[x.1]?).map fun o => (x.1, x.2, o)) ∧
      ∀ f v w', (∀ k ∈ D.map (·.1), f k = true) → Inv f v w' → Q .normal (putAll l.toArray v (D.map (·.1)) aH) w') (hs.filterMap fun i => l.toArray[i]?) a) :
    (Code.region id l.toArray true).wp P Q a w := by
  have := plq (P := P) (ops := l.toArray) (md := .any) (Q := Q) (w0 := w) (ls := ls) (D := D) (w := w.drew) hsel hQ (ext_refl w).draw D.length (fun s aH hp hR => ?_) hs _ a hB (closed_new _) h
  · refine wp_region_any hm (wpAny_of_U (S := Ext w) (T := fun _ => True) (ls := ls) _ _ _ _ ?_)
    have e : l.toArray.size = D.length + hs.length := by simpa using hn
    rw [e]
    rw [e] at this
    exact this
  · obtain ⟨Inv, hz, hI, hst, hend⟩ := hR
    unfold planQ at hp
    simp only [Bool.and_eq_true, beq_iff_eq, List.all_eq_true, List.mem_range] at hp
    obtain ⟨hp1, hp2⟩ := hp
    have hall : ∀ i, i < l.toArray.size → i ∉ D.map (·.1) → s.getD i false = true := fun i hi hm => by
      rw [hp2 i hi]; simpa using hm
    have hnot : ∀ k ∈ D.map (·.1), s.getD k false = false := fun k hk => by
      by_cases hlt : k < l.toArray.size
      · rw [hp2 k hlt]; simpa using hk
      · simp only [Array.getD_eq_getD_getElem?]
        rw [Array.getElem?_eq_none (by omega)]; rfl
    have hlen : ∀ (L : List Nat), left s L ≤ L.length := fun L => by
      induction L with
      | nil => exact Nat.le_refl _
      | cons k r ih => unfold left; simp only [List.length_cons]; split <;> omega
    have e : putF l.toArray (fun _ => false) (fun _ => undef) (D.map (·.1)) aH = aH := by
      have : ∀ (L : List Nat) (a : Act), putF l.toArray (fun _ => false) (fun _ => undef) L a = a := fun L => by
        induction L with
        | nil => intro a; rfl
        | cons k r ih => intro a; unfold putF; rw [if_neg (by decide)]; exact ih a
      exact this _ _
    have h2 := inv_any (P := P) (ops := l.toArray) (md := .any) (Q := Q) (w0 := w) (ls := ls) (D := D) (aH := aH) (Inv := Inv) hsel hC (fun k hk d hd => by
      have := (List.all_eq_true.1 hz) k hk
      rw [hd] at this
      simpa using this) hst hend D.length s (fun _ => false) (fun _ => undef) w.drew hp1 (by have := hlen (D.map (·.1)); rw [List.length_map] at this; exact this) hall (fun k hk => (hnot k hk).symm) (fun _ _ h => by cases h) hI
    rw [e] at h2
    exact h2
end
end Hy
end
namespace Go.Proofs.YtolhifnlahllnaaDoor
open Go.RowKit Hy
abbrev TRk (f : Nat) (args : Array Value) (w : World) (E : Int) (T : Tb.Tab) : Prop := Calls Tryd.prog f args w fun e w' => ∃ v', e = .returned (.tuple #[v', .int .i64 E]) ∧ TbL w' w.heap.size v' T ∧ Ext w w'
structure KpInv (y0 : World) (np nq : Nat) (p q : List Cnd) (TX : Tb.Tab) (f : Nat → Bool) (v : Nat → Value) (w : World) : Prop where
  e : Ext y0 w
  c1 : f 1 = true → f 3 = false → w.ownsRow y0.heap.size 62 5 (v 1) 0 []
  c3 : f 3 = true → f 5 = false → w.ownsRow y0.heap.size 62 5 (v 3) np (cns p)
  c5 : f 5 = true → f 8 = false → w.ownsRow y0.heap.size 62 5 (v 5) (np + nq) (cns p ++ cns q)
  c6 : f 6 = true → v 6 = cndV (5, 0, 0, 0, Tb.s0)
  c7 : f 7 = true → f 8 = false → ∃ g, v 7 = .slice (some ⟨g, 0, none⟩) 1 1 ∧ Rd w (some ⟨g, 0, none⟩) (cns [Cnd.nd 5])
  c8 : f 8 = true → f 9 = false → ∃ C cap, v 8 = .slice C (np + nq + 1) cap ∧ Rd w C (cns (p ++ q ++ [Cnd.nd 5]))
  c9 : f 9 = true → ∃ A n c B m d, v 9 = .tuple #[.agg #[.slice A n c, .slice B m d], .int .i64 0] ∧ (f 14 = false → TbV w (.agg #[.slice A n c, .slice B m d]) TX)
  c10 : f 10 = true → v 10 = v 9
  c11 : f 11 = true → ∀ x y, v 9 = .tuple #[x, y] → v 11 = x
  c12 : f 12 = true → v 12 = .int .i64 0
  c15 : f 15 = true → v 15 = .int .i64 0
  c13 : f 13 = true → ∃ g, v 13 = .pointer (some ⟨g, 0, none⟩) ∧ y0.heap.size ≤ g ∧ (f 14 = false → Blk w g 54 #[.slice none 0 0, .slice none 0 0])
  c39 : f 9 = true → f 13 = true → f 14 = false → ∀ g x y, v 13 = .pointer (some ⟨g, 0, none⟩) → v 9 = .tuple #[x, y] → ∀ a b, TbV ((w.setCell ⟨g, 0, none⟩ a).setCell ⟨g, 1, none⟩ b) x TX
  c14 : f 14 = true → ∃ g A n c B m d, v 13 = .pointer (some ⟨g, 0, none⟩) ∧ y0.heap.size ≤ g ∧ Blk w g 54 #[.slice A n c, .slice B m d] ∧ TbV w (.agg #[.slice A n c, .slice B m d]) TX
theorem rowCn : RowT Tryd.prog 55 62 5 48 := RowT.mk' (z := .agg #[.int .i64 0, .int .i64 0, .int .i64 0, .int .u64 0, .string ⟨#[]⟩]) Tryd.underlying55 (by kernel_rfl) rfl (by decide)
theorem bnd_74 {np nq N : Nat} (h1 : N = np + nq) (h2 : (N : Int) < 16) : 0 + np ≤ 1000 := by omega
theorem bnd_76 {np nq N : Nat} (h1 : N = np + nq) (h2 : (N : Int) < 16) : np + nq ≤ 1000 := by omega
theorem bnd_78 {np nq N : Nat} (h1 : N = np + nq) (h2 : (N : Int) < 16) : np + nq + 1 ≤ 1000 := by omega
theorem bnd_k (a b : Nat) (h : a + b ≤ 1000) : a + b ≤ maxLen ∧ (a + b + (a + b) / 4 + 192) * 48 ≤ 281474976710656 := by unfold maxLen; omega
theorem tb_op (x : Int) (w : World) : Calls Tryd.prog 28 #[.int .i64 x] w fun e w' => e = .returned (cndV (x, 0, 0, 0, Tb.s0)) ∧ Ext w w' := by
  go_enter Tryd.func28, Tryd.ntmps28
  go_wp2
  refine bodyPost_ret (results_blk rfl _ _ w.heap.size 62 _ _ rfl (Blk.new _ _ _) Tryd.underlying62 rfl (by kernel_rfl)) rfl ?_
  exact ⟨rfl, (ext_refl _).new _⟩
set_option maxHeartbeats 12800000 in
set_option maxRecDepth 100000 in
theorem tableKeeps_any (t : Tb.Tab) (p q : List Cnd) (P Q : Option Addr) (np pcap nq qcap : Nat) (v : Value) (w : World) (hv : TbV w v t) (hb : TbB t) (hpn : p.length = np) (hp : Rd w P (cns p)) (hnl : np ≤ 140737488355328) (hpz : P = none → np = 0) (hqn : q.length = nq) (hq : Rd w Q (cns q)) (hql : nq ≤ 140737488355328) (hqz : Q = none → nq = 0) :
    Calls Tryd.prog 8 #[v, .slice P np pcap, .slice Q nq qcap] w fun e w' => e = .returned (.bool true) ∧ Ext w w' := by
  have HB := hid hb
  obtain ⟨A, n, c, B, m, d, rfl⟩ := hv.shape
  have HV0 := hid hv
  have HP := hid hp; have HQ := hid hq
  have HPL := hid (⟨hpn, hnl, hpz⟩ : p.length = np ∧ np ≤ 140737488355328 ∧ (P = none → np = 0))
  have HQL := hid (⟨hqn, hql, hqz⟩ : q.length = nq ∧ nq ≤ 140737488355328 ∧ (Q = none → nq = 0))
  have hpI : (np : Int) ≤ 140737488355328 := by omega
  have hqI : (nq : Int) ≤ 140737488355328 := by omega
  obtain ⟨E1, hE1⟩ : ∃ E, E = Tb.keepE t p := ⟨_, rfl⟩
  obtain ⟨E2, hE2⟩ : ∃ E, E = Tb.keepE t q := ⟨_, rfl⟩
  have HK0 := hid (fun v wx (hx : TbV wx v t) (hq : Rd wx P (cns p)) => show TRk 25 #[v, .slice P np pcap] wx (E1 : Nat) (Tb.res E1 (Tb.keepT t p)) from by
    have h := keep_any t p P np pcap v wx hx HB.out HPL.out.1 hq HPL.out.2.1
    rw [← hE1] at h; exact h)
  have HK1 := hid (fun v wx (hx : TbV wx v t) (hr : Rd wx Q (cns q)) => show TRk 25 #[v, .slice Q nq qcap] wx (E2 : Nat) (Tb.res E2 (Tb.keepT t q)) from by
    have h := keep_any t q Q nq qcap v wx hx HB.out HQL.out.1 hr HQL.out.2.1
    rw [← hE2] at h; exact h)
  have HE1 := hid hE1; have HE2 := hid hE2
  have HTE := hid (fun (E : Nat) (T : Tb.Tab) (h0 : E ≠ 0) v wx (h1 : TbV wx v (Tb.res E T)) => show Calls Tryd.prog 27 #[v, .agg #[.slice none 0 0, .slice none 0 0]] wx fun e w' => e = .returned (.bool true) ∧ Ext wx w' from by
    rw [Tb.res_no h0] at h1
    have h := sameT_any ([], []) ([], []) v _ wx h1 (tb0_V wx) ⟨by decide, by decide, fun x hx => absurd hx List.not_mem_nil, fun x hx => absurd hx List.not_mem_nil⟩
    rw [decide_eq_true rfl] at h; exact h)
  have HSM := hid (fun (T : Tb.Tab) (hb : TbB T) v u wx (h1 : TbV wx v T) (h2 : TbV wx u T) => show Calls Tryd.prog 27 #[v, u] wx fun e w' => e = .returned (.bool true) ∧ Ext wx w' from by
    have h := sameT_any T T v u wx h1 h2 hb
    rw [decide_eq_true rfl] at h; exact h)
  have XN := hid ((ext_refl w).new (.cells #[.slice A n c, .slice B m d] 54))
  clear hv hb hpn hp hnl hpz hqn hq hql hqz hE1 hE2
  go_enter Tryd.func8, Tryd.ntmps8
  go_upto_region 1 with fail
  refine wp_gen (fun w' => Ext w w' ∧ Blk w' w.heap.size 54 #[.slice A n c, .slice B m d]) ⟨XN.out, blk_at _ _ rfl⟩ ?_
  rintro wz ⟨x0, x1⟩
  have X0 : Hid (Ext w wz) := hid x0
  have X : Hid (Ext wz wz) := hid (ext_refl wz)
  have BT := hid x1
  have VT := hid (HV0.out.keep x0)
  have RP := hid (HP.out.keep x0)
  have RQ := hid (HQ.out.keep x0)
  clear x0 x1 XN HV0
  have BTk := hid (BT.out.keep X.out)
  have kBTk0 := BTk.out.cell 0
  have kBTk1 := BTk.out.cell 1
  go_wp2_with fail
  refine Calls.mono (HK0.out _ _ (VT.out.keep X.out) (RP.out.keep X.out)) ?_
  rintro e w1 ⟨v', rfl, hl, hx⟩
  obtain ⟨Aa, na, ca, Da, ma, da, rfl⟩ := hl.V.shape
  have hn := Ext.new (ext_refl w1) (.cells #[.slice Aa na ca, .slice Da ma da] 54)
  have Ba := hid (Blk.new w1 54 #[.slice Aa na ca, .slice Da ma da])
  have Va := hid (hl.V.keep hn)
  have hy := Ext.then hx hn
  replace X := hid (X.out.then hy)
  clear BTk kBTk0 kBTk1 hx hl hn hy
  go_wp2_with fail
  refine Calls.mono (tableBegun_any _) ?_
  rintro e w2 ⟨rfl, hx⟩
  replace X := hid (X.out.then hx)
  replace Ba := hid (Ba.out.keep hx)
  replace Va := hid (Va.out.keep hx)
  clear  hx
  by_cases h0 : E1 = 0
  · have hk1 := Tb.keepE_ok.1 (HE1.out.symm.trans h0)
    subst h0
    obtain ⟨TA, hTA⟩ : ∃ T, T = Tb.keepT t p := ⟨_, rfl⟩
    have rA : Tb.Right TA := by rw [hTA]; exact Tb.keep_right hk1.1
    have HVA := hid (show TbV _ _ TA from by rw [hTA]; exact Va.out)
    have HKA := hid (fun v wx (hx : TbV wx v TA) (hr : Rd wx P (cns p)) => show TRk 25 #[v, .slice P np pcap] wx 0 TA from by
      have h := keep_any TA p P np pcap v wx hx (Right.B rA) HPL.out.1 hr HPL.out.2.1
      rw [Tb.keepE_ok.2 ⟨rA, by rw [hTA]; exact hk1.2⟩] at h
      rw [show Tb.keepT TA p = TA by rw [hTA]; exact Tb.keep_idem hk1.1 p] at h; exact h)
    have HBA := hid (Right.B rA)
    have HRT := hid hk1; have HTA := hid hTA; have HRA := hid rA
    clear Va hk1 hTA rA
    have kBa0 := Ba.out.cell 0
    have kBa1 := Ba.out.cell 1
    go_wp2_with fail
    refine Calls.mono (HKA.out _ _ HVA.out (RP.out.keep X.out)) ?_
    rintro e w3 ⟨v', rfl, hl, hx⟩
    obtain ⟨Ax, nx, cx, Dx, mx, dx, rfl⟩ := hl.V.shape
    have HG3 := hid (show wz.heap.size ≤ w3.heap.size from (X.out.then hx).size)
    have hn := Ext.new (ext_refl w3) (.cells #[.slice Ax nx cx, .slice Dx mx dx] 54)
    have Bx := hid (Blk.new w3 54 #[.slice Ax nx cx, .slice Dx mx dx])
    have Vx := hid (hl.V.keep hn)
    have hy := Ext.then hx hn
    replace X := hid (X.out.then hy)
    replace Ba := hid (Ba.out.keep hy)
    replace HVA := hid (HVA.out.keep hy)
    clear kBa0 kBa1 hx hl hn hy
    have kBx0 := Bx.out.cell 0
    have kBx1 := Bx.out.cell 1
    have kBa0 := Ba.out.cell 0
    have kBa1 := Ba.out.cell 1
    go_wp2_with fail
    refine Calls.mono (HSM.out _ HBA.out _ _ _ Vx.out HVA.out) ?_
    rintro e w4 ⟨rfl, hx⟩
    replace X := hid (X.out.then hx)
    replace Ba := hid (Ba.out.keep hx)
    replace HVA := hid (HVA.out.keep hx)
    replace Bx := hid (Bx.out.keep hx)
    clear kBx0 kBx1 kBa0 kBa1 hx
    have BTk := hid (BT.out.keep X.out)
    have kBTk0 := BTk.out.cell 0
    have kBTk1 := BTk.out.cell 1
    go_wp2_with fail
    refine Calls.mono (HK1.out _ _ (VT.out.keep X.out) (RQ.out.keep X.out)) ?_
    rintro e w5 ⟨v', rfl, hl, hx⟩
    obtain ⟨Ab, nb, cb, Db, mb, db, rfl⟩ := hl.V.shape
    have HGX := hid Bx.out.lt
    have HG5 := hid hx.size
    have HLB5 := hid (hl.keep (Ext.new (ext_refl w5) (.cells #[.slice Ab nb cb, .slice Db mb db] 54)))
    have hn := Ext.new (ext_refl w5) (.cells #[.slice Ab nb cb, .slice Db mb db] 54)
    have Bb := hid (Blk.new w5 54 #[.slice Ab nb cb, .slice Db mb db])
    have Vb := hid (hl.V.keep hn)
    have hy := Ext.then hx hn
    replace X := hid (X.out.then hy)
    replace Ba := hid (Ba.out.keep hy)
    replace HVA := hid (HVA.out.keep hy)
    replace Bx := hid (Bx.out.keep hy)
    clear BTk kBTk0 kBTk1 hx hl hn hy
    by_cases h0 : E2 = 0
    · have hk2 := Tb.keepE_ok.1 (HE2.out.symm.trans h0)
      subst h0
      obtain ⟨N, hN⟩ : ∃ N, N = np + nq := ⟨_, rfl⟩
      by_cases h16 : (16 : Int) ≤ (np : Int) + (nq : Int)
      · clear hk2
        go_wp2
        go_returns
        exact ⟨rfl, X0.out.then X.out⟩
      · have hlt : (N : Int) < 16 := by omega
        have hlt2 : (np : Int) + (nq : Int) < 16 := by omega
        obtain ⟨TB, hTB⟩ : ∃ T, T = Tb.keepT t q := ⟨_, rfl⟩
        have rB : Tb.Right TB := by rw [hTB]; exact Tb.keep_right hk2.1
        have hk1 := HRT.out
        have hTA := HTA.out
        have HTB := hid hTB
        have HVB := hid (show TbV _ _ TB from by rw [hTB]; exact Vb.out)
        obtain ⟨TX, hTX⟩ : ∃ T, T = Tb.keepT TA q := ⟨_, rfl⟩
        have HKX := hid (fun v wx (hx : TbV wx v TA) (hr : Rd wx Q (cns q)) => show TRk 25 #[v, .slice Q nq qcap] wx 0 TX from by
          have h := keep_any TA q Q nq qcap v wx hx HBA.out HQL.out.1 hr HQL.out.2.1
          rw [Tb.keepE_ok.2 ⟨HRA.out, by rw [hTA]; exact hk2.2⟩, ← hTX] at h; exact h)
        have HKY := hid (fun v wx (hx : TbV wx v TB) (hr : Rd wx P (cns p)) => show TRk 25 #[v, .slice P np pcap] wx 0 TX from by
          have h := keep_any TB p P np pcap v wx hx (Right.B rB) HPL.out.1 hr HPL.out.2.1
          rw [Tb.keepE_ok.2 ⟨rB, by rw [hTB]; exact hk1.2⟩] at h
          rw [show Tb.keepT TB p = TX by rw [hTB, hTX, hTA]; exact Tb.keep_comm hk1.1 q p] at h; exact h)
        have HKZ := hid (fun v PP cap wx (hx : TbV wx v t) (hr : Rd wx PP (cns (p ++ q ++ [Cnd.nd 5]))) => show TRk 25 #[v, .slice PP (N + 1) cap] wx 0 TX from by
          have hlen : p.length + q.length < 16 := by rw [HPL.out.1, HQL.out.1]; omega
          have hz := Tb.keep_both hk1.1 hk1.2 hk2.2 hlen
          have h := keep_any t (p ++ q ++ [Cnd.nd 5]) PP (N + 1) cap v wx hx HB.out (by simp only [List.length_append, List.length_cons, List.length_nil]; rw [HPL.out.1, HQL.out.1, hN]) hr (by omega)
          rw [hz.1, hz.2, ← hTA, ← hTX] at h; exact h)
        have HMX := hid (fun a b h => bnd_k a b h)
        have HBX := hid (show TbB TX from by rw [hTX]; exact Right.B (Tb.keep_right HRA.out))
        have HNN := hid (⟨hN, hlt⟩ : N = np + nq ∧ (N : Int) < 16)
        clear hk2 hk1 hTA hTB rB hTX Vb h16 hN
        have kf0 := Bx.out.frozen 0
        have kf1 := Bx.out.frozen 1
        have kx0 := Bx.out.cell 0
        have kx1 := Bx.out.cell 1
        have klt := Bx.out.lt
        have kBa0 := Ba.out.cell 0
        have kBa1 := Ba.out.cell 1
        go_wp2_with fail
        refine Calls.mono (HKX.out _ _ HVA.out (RQ.out.keep X.out)) ?_
        rintro e w6 ⟨v', rfl, hl, hx⟩
        obtain ⟨Ar, nr, cr, Dr, mr, dr, rfl⟩ := hl.V.shape
        have HLR := hid hl
        have HKL := hid klt
        replace X := hid (X.out.then hx)
        replace Bx := hid (Bx.out.keep hx)
        have BB6 := hid (Bb.out.keep hx)
        have HLB := hid (HLB5.out.keep hx)
        have HGB := hid hx
        clear kBa0 kBa1 hx hl klt kf0 kf1 kx0 kx1
        have kf0 := Bx.out.frozen 0
        have kf1 := Bx.out.frozen 1
        have kx0 := Bx.out.cell 0
        have kx1 := Bx.out.cell 1
        have HNE := hid (show w5.heap.size ≠ w3.heap.size from by have := HGX.out; have := HG5.out; omega)
        have VB7 := hid ((HLB.out.put (p := ⟨w3.heap.size, 0, none⟩) HGX.out (.slice Ar nr cr)).put (p := ⟨w3.heap.size, 1, none⟩) HGX.out (.slice Dr mr dr)).V
        go_upto_region 13 with fail
        refine wp_gen (fun w' => Ext wz w' ∧ Blk w' w3.heap.size 54 #[.slice Ar nr cr, .slice Dr mr dr] ∧ TbV w' (.agg #[.slice Ar nr cr, .slice Dr mr dr]) TX ∧ Blk w' w5.heap.size 54 #[.slice Ab nb cb, .slice Db mb db] ∧ TbV w' (.agg #[.slice Ab nb cb, .slice Db mb db]) TB) ⟨Ext.put (Ext.put X.out (p := ⟨w3.heap.size, 0, none⟩) HG3.out _) (p := ⟨w3.heap.size, 1, none⟩) HG3.out _, ((Bx.out.set 0 (.slice Ar nr cr)).set 1 (.slice Dr mr dr)).cast (by simp), ((HLR.out.put (p := ⟨w3.heap.size, 0, none⟩) HKL.out _).put (p := ⟨w3.heap.size, 1, none⟩) HKL.out _).V, (BB6.out.far (p := ⟨w3.heap.size, 0, none⟩) HNE.out _).far (p := ⟨w3.heap.size, 1, none⟩) HNE.out _, by rw [HTB.out]; exact VB7.out⟩ ?_
        rintro wq ⟨x0, x1, x2, x3, x4⟩
        clear X Bx kf0 kf1 kx0 kx1 HLR HKL BB6 HLB VB7
        have X := hid x0
        have Bx := hid x1
        have Vx := hid x2
        have Bb := hid x3
        have Vb := hid x4
        clear x0 x1 x2 x3 x4
        have kBb0 := Bb.out.cell 0
        have kBb1 := Bb.out.cell 1
        go_wp2_with fail
        refine Calls.mono (HKY.out _ _ Vb.out (RP.out.keep X.out)) ?_
        rintro e w8 ⟨v', rfl, hl, hx⟩
        obtain ⟨Ay, ny, cy, Dy, my, dy, rfl⟩ := hl.V.shape
        have hn := Ext.new (ext_refl w8) (.cells #[.slice Ay ny cy, .slice Dy my dy] 54)
        have By := hid (Blk.new w8 54 #[.slice Ay ny cy, .slice Dy my dy])
        have Vy := hid (hl.V.keep hn)
        have hy := Ext.then hx hn
        replace X := hid (X.out.then hy)
        replace Bx := hid (Bx.out.keep hy)
        replace Vx := hid (Vx.out.keep hy)
        clear kBb0 kBb1 hx hl hn hy
        have BTk := hid (BT.out.keep X.out)
        have kt0 := BTk.out.cell 0
        have kt1 := BTk.out.cell 1
        go_upto_region 14 with fail
        refine wp_gen (fun w' => Ext wz w' ∧ Blk w' w.heap.size 54 #[.slice A n c, .slice B m d] ∧ Blk w' w3.heap.size 54 #[.slice Ar nr cr, .slice Dr mr dr] ∧ TbV w' (.agg #[.slice Ar nr cr, .slice Dr mr dr]) TX ∧ Blk w' w8.heap.size 54 #[.slice Ay ny cy, .slice Dy my dy] ∧ TbV w' (.agg #[.slice Ay ny cy, .slice Dy my dy]) TX) ⟨X.out, BT.out.keep X.out, Bx.out, Vx.out, By.out, Vy.out⟩ ?_
        rintro wa ⟨x0, x1, x2, x3, x4, x5⟩
        have Q0 := hid x0
        have kt0 := x1.cell 0
        have kt1 := x1.cell 1
        have Bx := hid x2
        have Vx := hid x3
        have By := hid x4
        have Vy := hid x5
        have VZ := VT.out.keep x0
        have RPZ := RP.out.keep x0
        have RQZ := RQ.out.keep x0
        have kt0r := cell_regrown kt0
        have kt1r := cell_regrown kt1
        clear x0 x1 x2 x3 x4 x5
        have Q1 := hid (show Ext wz wa from Q0.out)
        refine wp_region_inv [] [0, 2, 4] [(1, []), (3, [1]), (5, [3]), (6, [5]), (7, [6]), (8, [5, 7]), (9, [8]), (10, [9]), (11, [10]), (12, [10]), (13, []), (14, [11, 13]), (15, [12])] (by kernel_rfl) (by kernel_rfl) (fun _ _ _ _ _ h => h) (by kernel_rfl) (by kernel_rfl) (by rfl) ?_
        simp only [List.filterMap_cons, List.filterMap_nil, List.getElem?_toArray, List.getElem?_cons_zero, List.getElem?_cons_succ, Option.map_some]
        repeat (refine wpQ_val (by rfl) ?_; intro K hK; go_big_quiet_op; go_big_quiet_on)
        refine wpQ_nil ?_
        refine ⟨fun f v w => KpInv wa np nq p q TX f v w, by rfl, ?_, ?_, ?_⟩
        · exact ⟨(ext_refl wa).draw, fun h _ => absurd h (by decide), fun h _ => absurd h (by decide), fun h _ => absurd h (by decide), fun h => absurd h (by decide), fun h _ => absurd h (by decide), fun h _ => absurd h (by decide), fun h => absurd h (by decide), fun h => absurd h (by decide), fun h => absurd h (by decide), fun h => absurd h (by decide), fun h => absurd h (by decide), fun h => absurd h (by decide), fun h _ _ => absurd h (by decide), fun h => absurd h (by decide)⟩
        · refine ⟨?_, ?_, ?_, ?_, ?_, ?_, ?_, ?_, ?_, ?_, ?_, ?_, ?_, trivial⟩
          · intro f v w hf hd hcl I K hK
            have n3 : f 3 = false := (by cases h : f 3 with | false => rfl | true => exact absurd ((hcl (3, [1]) (by simp) h 1 (by simp)).symm.trans hf) (by decide))
            have n5 : f 5 = false := (by cases h : f 5 with | false => rfl | true => exact absurd ((hcl (5, [3]) (by simp) h 3 (by simp)).symm.trans n3) (by decide))
            have n6 : f 6 = false := (by cases h : f 6 with | false => rfl | true => exact absurd ((hcl (6, [5]) (by simp) h 5 (by simp)).symm.trans n5) (by decide))
            have n7 : f 7 = false := (by cases h : f 7 with | false => rfl | true => exact absurd ((hcl (7, [6]) (by simp) h 6 (by simp)).symm.trans n6) (by decide))
            have n8 : f 8 = false := (by cases h : f 8 with | false => rfl | true => exact absurd ((hcl (8, [5, 7]) (by simp) h 5 (by simp)).symm.trans n5) (by decide))
            have n9 : f 9 = false := (by cases h : f 9 with | false => rfl | true => exact absurd ((hcl (9, [8]) (by simp) h 8 (by simp)).symm.trans n8) (by decide))
            have n10 : f 10 = false := (by cases h : f 10 with | false => rfl | true => exact absurd ((hcl (10, [9]) (by simp) h 9 (by simp)).symm.trans n9) (by decide))
            have n11 : f 11 = false := (by cases h : f 11 with | false => rfl | true => exact absurd ((hcl (11, [10]) (by simp) h 10 (by simp)).symm.trans n10) (by decide))
            have n12 : f 12 = false := (by cases h : f 12 with | false => rfl | true => exact absurd ((hcl (12, [10]) (by simp) h 10 (by simp)).symm.trans n10) (by decide))
            have n14 : f 14 = false := (by cases h : f 14 with | false => rfl | true => exact absurd ((hcl (14, [11, 13]) (by simp) h 11 (by simp)).symm.trans n11) (by decide))
            have n15 : f 15 = false := (by cases h : f 15 with | false => rfl | true => exact absurd ((hcl (15, [12]) (by simp) h 12 (by simp)).symm.trans n12) (by decide))
            simp only [putAll]
            go_simp
            have hx := Ext.new (ext_refl w) (.cells #[] 62)
            refine hK _ _ rfl (fun _ h => h.then hx) ?_
            exact {
              e := I.e.then hx
              c1 := fun _ _ => own_new rfl rfl I.e.size (Nat.zero_le _)
              c3 := fun h3 _ => absurd ((show f 3 = true from h3).symm.trans n3) (by decide)
              c5 := fun h5 _ => absurd ((show f 5 = true from h5).symm.trans n5) (by decide)
              c6 := fun h6 => absurd ((show f 6 = true from h6).symm.trans n6) (by decide)
              c7 := fun h7 _ => absurd ((show f 7 = true from h7).symm.trans n7) (by decide)
              c8 := fun h8 _ => absurd ((show f 8 = true from h8).symm.trans n8) (by decide)
              c9 := fun h9 => absurd ((show f 9 = true from h9).symm.trans n9) (by decide)
              c10 := fun h10 => absurd ((show f 10 = true from h10).symm.trans n10) (by decide)
              c11 := fun h11 => absurd ((show f 11 = true from h11).symm.trans n11) (by decide)
              c12 := fun h12 => absurd ((show f 12 = true from h12).symm.trans n12) (by decide)
              c15 := fun h15 => absurd ((show f 15 = true from h15).symm.trans n15) (by decide)
              c13 := fun h13 => by obtain ⟨g, e, hg, r⟩ := (I.c13 h13); exact ⟨g, e, hg, fun h => (r h).keep hx⟩
              c39 := fun h9 _ _ => absurd ((show f 9 = true from h9).symm.trans n9) (by decide)
              c14 := fun h14 => absurd ((show f 14 = true from h14).symm.trans n14) (by decide)
            }
          · intro f v w hf hd hcl I K hK
            have t1 : f 1 = true := hd 1 (by simp)
            have n5 : f 5 = false := (by cases h : f 5 with | false => rfl | true => exact absurd ((hcl (5, [3]) (by simp) h 3 (by simp)).symm.trans hf) (by decide))
            have n6 : f 6 = false := (by cases h : f 6 with | false => rfl | true => exact absurd ((hcl (6, [5]) (by simp) h 5 (by simp)).symm.trans n5) (by decide))
            have n7 : f 7 = false := (by cases h : f 7 with | false => rfl | true => exact absurd ((hcl (7, [6]) (by simp) h 6 (by simp)).symm.trans n6) (by decide))
            have n8 : f 8 = false := (by cases h : f 8 with | false => rfl | true => exact absurd ((hcl (8, [5, 7]) (by simp) h 5 (by simp)).symm.trans n5) (by decide))
            have n9 : f 9 = false := (by cases h : f 9 with | false => rfl | true => exact absurd ((hcl (9, [8]) (by simp) h 8 (by simp)).symm.trans n8) (by decide))
            have n10 : f 10 = false := (by cases h : f 10 with | false => rfl | true => exact absurd ((hcl (10, [9]) (by simp) h 9 (by simp)).symm.trans n9) (by decide))
            have n11 : f 11 = false := (by cases h : f 11 with | false => rfl | true => exact absurd ((hcl (11, [10]) (by simp) h 10 (by simp)).symm.trans n10) (by decide))
            have n12 : f 12 = false := (by cases h : f 12 with | false => rfl | true => exact absurd ((hcl (12, [10]) (by simp) h 10 (by simp)).symm.trans n10) (by decide))
            have n14 : f 14 = false := (by cases h : f 14 with | false => rfl | true => exact absurd ((hcl (14, [11, 13]) (by simp) h 11 (by simp)).symm.trans n11) (by decide))
            have n15 : f 15 = false := (by cases h : f 15 with | false => rfl | true => exact absurd ((hcl (15, [12]) (by simp) h 12 (by simp)).symm.trans n12) (by decide))
            simp only [putAll, dstOf, List.getElem?_toArray, List.getElem?_cons_zero, List.getElem?_cons_succ, Option.bind_some]
            have O := I.c1 t1 hf
            simp only [Act.put, List.setIfInBounds_toArray, List.set_cons_zero, List.set_cons_succ]
            refine wp_app (.tmp 74) (.tmp 75) rowCn rfl _ (0) ([]) rfl O _ (np) (cns (p)) rfl (Src.rd Tryd.underlying55 _ np _ _ (by rw [cns_len, HPL.out.1]) (RPZ.keep I.e) (cns_one _) (HPL.out.2.2)) (HMX.out _ _ (bnd_74 HNN.out.1 HNN.out.2)).1 (HMX.out _ _ (bnd_74 HNN.out.1 HNN.out.2)).2 I.e.size ?_
            intro vn w' hown hgrow hat hbel
            refine hK _ _ rfl (fun _ h => Below.trans h hbel) ?_
            exact {
              e := Below.trans I.e hbel
              c1 := fun _ h3 => absurd (show true = false from h3) (by decide)
              c3 := fun _ _ => by rw [Nat.zero_add, List.nil_append] at hown; exact hown
              c5 := fun h5 _ => absurd ((show f 5 = true from h5).symm.trans n5) (by decide)
              c6 := fun h6 => absurd ((show f 6 = true from h6).symm.trans n6) (by decide)
              c7 := fun h7 _ => absurd ((show f 7 = true from h7).symm.trans n7) (by decide)
              c8 := fun h8 _ => absurd ((show f 8 = true from h8).symm.trans n8) (by decide)
              c9 := fun h9 => absurd ((show f 9 = true from h9).symm.trans n9) (by decide)
              c10 := fun h10 => absurd ((show f 10 = true from h10).symm.trans n10) (by decide)
              c11 := fun h11 => absurd ((show f 11 = true from h11).symm.trans n11) (by decide)
              c12 := fun h12 => absurd ((show f 12 = true from h12).symm.trans n12) (by decide)
              c15 := fun h15 => absurd ((show f 15 = true from h15).symm.trans n15) (by decide)
              c13 := fun h13 => by obtain ⟨g, e, hg, r⟩ := (I.c13 h13); exact ⟨g, e, hg, fun h => Blk.grw (r h) hgrow (own_nblk O (r h) (by decide))⟩
              c39 := fun h9 _ _ => absurd ((show f 9 = true from h9).symm.trans n9) (by decide)
              c14 := fun h14 => absurd ((show f 14 = true from h14).symm.trans n14) (by decide)
            }
          · intro f v w hf hd hcl I K hK
            have t3 : f 3 = true := hd 3 (by simp)
            have t1 : f 1 = true := hcl (3, [1]) (by simp) t3 1 (by simp)
            have n6 : f 6 = false := (by cases h : f 6 with | false => rfl | true => exact absurd ((hcl (6, [5]) (by simp) h 5 (by simp)).symm.trans hf) (by decide))
            have n7 : f 7 = false := (by cases h : f 7 with | false => rfl | true => exact absurd ((hcl (7, [6]) (by simp) h 6 (by simp)).symm.trans n6) (by decide))
            have n8 : f 8 = false := (by cases h : f 8 with | false => rfl | true => exact absurd ((hcl (8, [5, 7]) (by simp) h 5 (by simp)).symm.trans hf) (by decide))
            have n9 : f 9 = false := (by cases h : f 9 with | false => rfl | true => exact absurd ((hcl (9, [8]) (by simp) h 8 (by simp)).symm.trans n8) (by decide))
            have n10 : f 10 = false := (by cases h : f 10 with | false => rfl | true => exact absurd ((hcl (10, [9]) (by simp) h 9 (by simp)).symm.trans n9) (by decide))
            have n11 : f 11 = false := (by cases h : f 11 with | false => rfl | true => exact absurd ((hcl (11, [10]) (by simp) h 10 (by simp)).symm.trans n10) (by decide))
            have n12 : f 12 = false := (by cases h : f 12 with | false => rfl | true => exact absurd ((hcl (12, [10]) (by simp) h 10 (by simp)).symm.trans n10) (by decide))
            have n14 : f 14 = false := (by cases h : f 14 with | false => rfl | true => exact absurd ((hcl (14, [11, 13]) (by simp) h 11 (by simp)).symm.trans n11) (by decide))
            have n15 : f 15 = false := (by cases h : f 15 with | false => rfl | true => exact absurd ((hcl (15, [12]) (by simp) h 12 (by simp)).symm.trans n12) (by decide))
            simp only [putAll, dstOf, List.getElem?_toArray, List.getElem?_cons_zero, List.getElem?_cons_succ, Option.bind_some]
            have O := I.c3 t3 hf
            simp only [Act.put, List.setIfInBounds_toArray, List.set_cons_zero, List.set_cons_succ]
            refine wp_app (.tmp 76) (.tmp 77) rowCn rfl _ (np) (cns p) rfl O _ (nq) (cns (q)) rfl (Src.rd Tryd.underlying55 _ nq _ _ (by rw [cns_len, HQL.out.1]) (RQZ.keep I.e) (cns_one _) (HQL.out.2.2)) (HMX.out _ _ (bnd_76 HNN.out.1 HNN.out.2)).1 (HMX.out _ _ (bnd_76 HNN.out.1 HNN.out.2)).2 I.e.size ?_
            intro vn w' hown hgrow hat hbel
            refine hK _ _ rfl (fun _ h => Below.trans h hbel) ?_
            exact {
              e := Below.trans I.e hbel
              c1 := fun _ h3 => absurd ((show f 3 = false from h3).symm.trans t3) (by decide)
              c3 := fun _ h5 => absurd (show true = false from h5) (by decide)
              c5 := fun _ _ => hown
              c6 := fun h6 => absurd ((show f 6 = true from h6).symm.trans n6) (by decide)
              c7 := fun h7 _ => absurd ((show f 7 = true from h7).symm.trans n7) (by decide)
              c8 := fun h8 _ => absurd ((show f 8 = true from h8).symm.trans n8) (by decide)
              c9 := fun h9 => absurd ((show f 9 = true from h9).symm.trans n9) (by decide)
              c10 := fun h10 => absurd ((show f 10 = true from h10).symm.trans n10) (by decide)
              c11 := fun h11 => absurd ((show f 11 = true from h11).symm.trans n11) (by decide)
              c12 := fun h12 => absurd ((show f 12 = true from h12).symm.trans n12) (by decide)
              c15 := fun h15 => absurd ((show f 15 = true from h15).symm.trans n15) (by decide)
              c13 := fun h13 => by obtain ⟨g, e, hg, r⟩ := (I.c13 h13); exact ⟨g, e, hg, fun h => Blk.grw (r h) hgrow (own_nblk O (r h) (by decide))⟩
              c39 := fun h9 _ _ => absurd ((show f 9 = true from h9).symm.trans n9) (by decide)
              c14 := fun h14 => absurd ((show f 14 = true from h14).symm.trans n14) (by decide)
            }
          · intro f v w hf hd hcl I K hK
            have t5 : f 5 = true := hd 5 (by simp)
            have t3 : f 3 = true := hcl (5, [3]) (by simp) t5 3 (by simp)
            have t1 : f 1 = true := hcl (3, [1]) (by simp) t3 1 (by simp)
            have n7 : f 7 = false := (by cases h : f 7 with | false => rfl | true => exact absurd ((hcl (7, [6]) (by simp) h 6 (by simp)).symm.trans hf) (by decide))
            have n8 : f 8 = false := (by cases h : f 8 with | false => rfl | true => exact absurd ((hcl (8, [5, 7]) (by simp) h 7 (by simp)).symm.trans n7) (by decide))
            have n9 : f 9 = false := (by cases h : f 9 with | false => rfl | true => exact absurd ((hcl (9, [8]) (by simp) h 8 (by simp)).symm.trans n8) (by decide))
            have n10 : f 10 = false := (by cases h : f 10 with | false => rfl | true => exact absurd ((hcl (10, [9]) (by simp) h 9 (by simp)).symm.trans n9) (by decide))
            have n11 : f 11 = false := (by cases h : f 11 with | false => rfl | true => exact absurd ((hcl (11, [10]) (by simp) h 10 (by simp)).symm.trans n10) (by decide))
            have n12 : f 12 = false := (by cases h : f 12 with | false => rfl | true => exact absurd ((hcl (12, [10]) (by simp) h 10 (by simp)).symm.trans n10) (by decide))
            have n14 : f 14 = false := (by cases h : f 14 with | false => rfl | true => exact absurd ((hcl (14, [11, 13]) (by simp) h 11 (by simp)).symm.trans n11) (by decide))
            have n15 : f 15 = false := (by cases h : f 15 with | false => rfl | true => exact absurd ((hcl (15, [12]) (by simp) h 12 (by simp)).symm.trans n12) (by decide))
            simp only [putAll, dstOf, List.getElem?_toArray, List.getElem?_cons_zero, List.getElem?_cons_succ, Option.bind_some]
            go_simp
            refine Calls.mono (tb_op 5 _) ?_
            rintro e w' ⟨rfl, hx⟩
            refine hK _ _ rfl (fun _ h => h.then hx) ?_
            exact {
              e := I.e.then hx
              c1 := fun _ h3 => absurd ((show f 3 = false from h3).symm.trans t3) (by decide)
              c3 := fun _ h5 => absurd ((show f 5 = false from h5).symm.trans t5) (by decide)
              c5 := fun h5 h8 => own_ext (I.c5 h5 h8) hx
              c6 := fun _ => rfl
              c7 := fun h7 _ => absurd ((show f 7 = true from h7).symm.trans n7) (by decide)
              c8 := fun h8 _ => absurd ((show f 8 = true from h8).symm.trans n8) (by decide)
              c9 := fun h9 => absurd ((show f 9 = true from h9).symm.trans n9) (by decide)
              c10 := fun h10 => absurd ((show f 10 = true from h10).symm.trans n10) (by decide)
              c11 := fun h11 => absurd ((show f 11 = true from h11).symm.trans n11) (by decide)
              c12 := fun h12 => absurd ((show f 12 = true from h12).symm.trans n12) (by decide)
              c15 := fun h15 => absurd ((show f 15 = true from h15).symm.trans n15) (by decide)
              c13 := fun h13 => by obtain ⟨g, e, hg, r⟩ := (I.c13 h13); exact ⟨g, e, hg, fun h => (r h).keep hx⟩
              c39 := fun h9 _ _ => absurd ((show f 9 = true from h9).symm.trans n9) (by decide)
              c14 := fun h14 => absurd ((show f 14 = true from h14).symm.trans n14) (by decide)
            }
          · intro f v w hf hd hcl I K hK
            have t6 : f 6 = true := hd 6 (by simp)
            have t5 : f 5 = true := hcl (6, [5]) (by simp) t6 5 (by simp)
            have t3 : f 3 = true := hcl (5, [3]) (by simp) t5 3 (by simp)
            have t1 : f 1 = true := hcl (3, [1]) (by simp) t3 1 (by simp)
            have n8 : f 8 = false := (by cases h : f 8 with | false => rfl | true => exact absurd ((hcl (8, [5, 7]) (by simp) h 7 (by simp)).symm.trans hf) (by decide))
            have n9 : f 9 = false := (by cases h : f 9 with | false => rfl | true => exact absurd ((hcl (9, [8]) (by simp) h 8 (by simp)).symm.trans n8) (by decide))
            have n10 : f 10 = false := (by cases h : f 10 with | false => rfl | true => exact absurd ((hcl (10, [9]) (by simp) h 9 (by simp)).symm.trans n9) (by decide))
            have n11 : f 11 = false := (by cases h : f 11 with | false => rfl | true => exact absurd ((hcl (11, [10]) (by simp) h 10 (by simp)).symm.trans n10) (by decide))
            have n12 : f 12 = false := (by cases h : f 12 with | false => rfl | true => exact absurd ((hcl (12, [10]) (by simp) h 10 (by simp)).symm.trans n10) (by decide))
            have n14 : f 14 = false := (by cases h : f 14 with | false => rfl | true => exact absurd ((hcl (14, [11, 13]) (by simp) h 11 (by simp)).symm.trans n11) (by decide))
            have n15 : f 15 = false := (by cases h : f 15 with | false => rfl | true => exact absurd ((hcl (15, [12]) (by simp) h 12 (by simp)).symm.trans n12) (by decide))
            simp only [putAll, dstOf, List.getElem?_toArray, List.getElem?_cons_zero, List.getElem?_cons_succ, Option.bind_some]
            rw [I.c6 t6]
            go_simp
            have hx := Ext.new (ext_refl w) (.cells #[.int .i64 5, .int .i64 0, .int .i64 0, .int .u64 0, .string Tb.s0] 62)
            refine hK _ _ rfl (fun _ h => h.then hx) ?_
            exact {
              e := I.e.then hx
              c1 := fun _ h3 => absurd ((show f 3 = false from h3).symm.trans t3) (by decide)
              c3 := fun _ h5 => absurd ((show f 5 = false from h5).symm.trans t5) (by decide)
              c5 := fun h5 h8 => own_ext (I.c5 h5 h8) hx
              c6 := fun h6 => (I.c6 h6)
              c7 := fun _ _ => ⟨_, rfl, rd_lit rfl rfl⟩
              c8 := fun h8 _ => absurd ((show f 8 = true from h8).symm.trans n8) (by decide)
              c9 := fun h9 => absurd ((show f 9 = true from h9).symm.trans n9) (by decide)
              c10 := fun h10 => absurd ((show f 10 = true from h10).symm.trans n10) (by decide)
              c11 := fun h11 => absurd ((show f 11 = true from h11).symm.trans n11) (by decide)
              c12 := fun h12 => absurd ((show f 12 = true from h12).symm.trans n12) (by decide)
              c15 := fun h15 => absurd ((show f 15 = true from h15).symm.trans n15) (by decide)
              c13 := fun h13 => by obtain ⟨g, e, hg, r⟩ := (I.c13 h13); exact ⟨g, e, hg, fun h => (r h).keep hx⟩
              c39 := fun h9 _ _ => absurd ((show f 9 = true from h9).symm.trans n9) (by decide)
              c14 := fun h14 => absurd ((show f 14 = true from h14).symm.trans n14) (by decide)
            }
          · intro f v w hf hd hcl I K hK
            have t5 : f 5 = true := hd 5 (by simp)
            have t7 : f 7 = true := hd 7 (by simp)
            have t3 : f 3 = true := hcl (5, [3]) (by simp) t5 3 (by simp)
            have t6 : f 6 = true := hcl (7, [6]) (by simp) t7 6 (by simp)
            have t1 : f 1 = true := hcl (3, [1]) (by simp) t3 1 (by simp)
            have n9 : f 9 = false := (by cases h : f 9 with | false => rfl | true => exact absurd ((hcl (9, [8]) (by simp) h 8 (by simp)).symm.trans hf) (by decide))
            have n10 : f 10 = false := (by cases h : f 10 with | false => rfl | true => exact absurd ((hcl (10, [9]) (by simp) h 9 (by simp)).symm.trans n9) (by decide))
            have n11 : f 11 = false := (by cases h : f 11 with | false => rfl | true => exact absurd ((hcl (11, [10]) (by simp) h 10 (by simp)).symm.trans n10) (by decide))
            have n12 : f 12 = false := (by cases h : f 12 with | false => rfl | true => exact absurd ((hcl (12, [10]) (by simp) h 10 (by simp)).symm.trans n10) (by decide))
            have n14 : f 14 = false := (by cases h : f 14 with | false => rfl | true => exact absurd ((hcl (14, [11, 13]) (by simp) h 11 (by simp)).symm.trans n11) (by decide))
            have n15 : f 15 = false := (by cases h : f 15 with | false => rfl | true => exact absurd ((hcl (15, [12]) (by simp) h 12 (by simp)).symm.trans n12) (by decide))
            simp only [putAll, dstOf, List.getElem?_toArray, List.getElem?_cons_zero, List.getElem?_cons_succ, Option.bind_some]
            have O := I.c5 t5 hf
            obtain ⟨g7, e7, r7⟩ := I.c7 t7 hf
            rw [e7]
            simp only [Act.put, List.setIfInBounds_toArray, List.set_cons_zero, List.set_cons_succ]
            refine wp_app (.tmp 78) (.tmp 80) rowCn rfl _ (np + nq) (cns p ++ cns q) rfl O _ (1) (cns ([Cnd.nd 5])) rfl (Src.rd Tryd.underlying55 _ 1 _ _ (by rfl) (r7) (cns_one _) (fun h => by cases h)) (HMX.out _ _ (bnd_78 HNN.out.1 HNN.out.2)).1 (HMX.out _ _ (bnd_78 HNN.out.1 HNN.out.2)).2 I.e.size ?_
            intro vn w' hown hgrow hat hbel
            refine hK _ _ rfl (fun _ h => Below.trans h hbel) ?_
            exact {
              e := Below.trans I.e hbel
              c1 := fun _ h3 => absurd ((show f 3 = false from h3).symm.trans t3) (by decide)
              c3 := fun _ h5 => absurd ((show f 5 = false from h5).symm.trans t5) (by decide)
              c5 := fun _ h8 => absurd (show true = false from h8) (by decide)
              c6 := fun h6 => (I.c6 h6)
              c7 := fun _ h8 => absurd (show true = false from h8) (by decide)
              c8 := fun _ _ => by obtain ⟨C, cap, e, r, _⟩ := Rd.owned hown; exact ⟨C, cap, e, by simpa only [← cns_app, List.append_assoc] using r⟩
              c9 := fun h9 => absurd ((show f 9 = true from h9).symm.trans n9) (by decide)
              c10 := fun h10 => absurd ((show f 10 = true from h10).symm.trans n10) (by decide)
              c11 := fun h11 => absurd ((show f 11 = true from h11).symm.trans n11) (by decide)
              c12 := fun h12 => absurd ((show f 12 = true from h12).symm.trans n12) (by decide)
              c15 := fun h15 => absurd ((show f 15 = true from h15).symm.trans n15) (by decide)
              c13 := fun h13 => by obtain ⟨g, e, hg, r⟩ := (I.c13 h13); exact ⟨g, e, hg, fun h => Blk.grw (r h) hgrow (own_nblk O (r h) (by decide))⟩
              c39 := fun h9 _ _ => absurd ((show f 9 = true from h9).symm.trans n9) (by decide)
              c14 := fun h14 => absurd ((show f 14 = true from h14).symm.trans n14) (by decide)
            }
          · intro f v w hf hd hcl I K hK
            have t8 : f 8 = true := hd 8 (by simp)
            have t5 : f 5 = true := hcl (8, [5, 7]) (by simp) t8 5 (by simp)
            have t7 : f 7 = true := hcl (8, [5, 7]) (by simp) t8 7 (by simp)
            have t3 : f 3 = true := hcl (5, [3]) (by simp) t5 3 (by simp)
            have t6 : f 6 = true := hcl (7, [6]) (by simp) t7 6 (by simp)
            have t1 : f 1 = true := hcl (3, [1]) (by simp) t3 1 (by simp)
            have n10 : f 10 = false := (by cases h : f 10 with | false => rfl | true => exact absurd ((hcl (10, [9]) (by simp) h 9 (by simp)).symm.trans hf) (by decide))
            have n11 : f 11 = false := (by cases h : f 11 with | false => rfl | true => exact absurd ((hcl (11, [10]) (by simp) h 10 (by simp)).symm.trans n10) (by decide))
            have n12 : f 12 = false := (by cases h : f 12 with | false => rfl | true => exact absurd ((hcl (12, [10]) (by simp) h 10 (by simp)).symm.trans n10) (by decide))
            have n14 : f 14 = false := (by cases h : f 14 with | false => rfl | true => exact absurd ((hcl (14, [11, 13]) (by simp) h 11 (by simp)).symm.trans n11) (by decide))
            have n15 : f 15 = false := (by cases h : f 15 with | false => rfl | true => exact absurd ((hcl (15, [12]) (by simp) h 12 (by simp)).symm.trans n12) (by decide))
            simp only [putAll, dstOf, List.getElem?_toArray, List.getElem?_cons_zero, List.getElem?_cons_succ, Option.bind_some]
            obtain ⟨C, cap, e8, r8⟩ := I.c8 t8 hf
            rw [e8, show np + nq + 1 = N + 1 from by have := HNN.out.1; omega]
            go_simp
            refine Calls.mono (HKZ.out _ _ _ _ (VZ.keep I.e) r8) ?_
            rintro e w' ⟨v', rfl, hl, hx⟩
            obtain ⟨A1, n1, c1, D1, m1, d1, rfl⟩ := hl.V.shape
            refine hK _ _ rfl (fun _ h => h.then hx) ?_
            exact {
              e := I.e.then hx
              c1 := fun _ h3 => absurd ((show f 3 = false from h3).symm.trans t3) (by decide)
              c3 := fun _ h5 => absurd ((show f 5 = false from h5).symm.trans t5) (by decide)
              c5 := fun _ h8 => absurd ((show f 8 = false from h8).symm.trans t8) (by decide)
              c6 := fun h6 => (I.c6 h6)
              c7 := fun _ h8 => absurd ((show f 8 = false from h8).symm.trans t8) (by decide)
              c8 := fun _ h9 => absurd (show true = false from h9) (by decide)
              c9 := fun _ => ⟨A1, n1, c1, D1, m1, d1, rfl, fun _ => hl.V⟩
              c10 := fun h10 => absurd ((show f 10 = true from h10).symm.trans n10) (by decide)
              c11 := fun h11 => absurd ((show f 11 = true from h11).symm.trans n11) (by decide)
              c12 := fun h12 => absurd ((show f 12 = true from h12).symm.trans n12) (by decide)
              c15 := fun h15 => absurd ((show f 15 = true from h15).symm.trans n15) (by decide)
              c13 := fun h13 => by obtain ⟨g, e, hg, r⟩ := (I.c13 h13); exact ⟨g, e, hg, fun h => (r h).keep hx⟩
              c39 := fun _ h13 _ => by
                obtain ⟨g, e, hg, r⟩ := I.c13 h13
                intro g' x y e1 e2 a b
                have e3 : g = g' := by have := e.symm.trans e1; simpa using this
                subst e3
                have e4 : Value.tuple #[.agg #[.slice A1 n1 c1, .slice D1 m1 d1], .int .i64 0] = .tuple #[x, y] := e2
                obtain ⟨rfl, _⟩ : Value.agg #[.slice A1 n1 c1, .slice D1 m1 d1] = x ∧ Value.int .i64 0 = y := by simpa using e4
                have hlt := (r n14).lt
                exact ((hl.put (p := ⟨g, 0, none⟩) hlt a).put (p := ⟨g, 1, none⟩) hlt b).V
              c14 := fun h14 => absurd ((show f 14 = true from h14).symm.trans n14) (by decide)
            }
          · intro f v w hf hd hcl I K hK
            have t9 : f 9 = true := hd 9 (by simp)
            have t8 : f 8 = true := hcl (9, [8]) (by simp) t9 8 (by simp)
            have t5 : f 5 = true := hcl (8, [5, 7]) (by simp) t8 5 (by simp)
            have t7 : f 7 = true := hcl (8, [5, 7]) (by simp) t8 7 (by simp)
            have t3 : f 3 = true := hcl (5, [3]) (by simp) t5 3 (by simp)
            have t6 : f 6 = true := hcl (7, [6]) (by simp) t7 6 (by simp)
            have t1 : f 1 = true := hcl (3, [1]) (by simp) t3 1 (by simp)
            have n11 : f 11 = false := (by cases h : f 11 with | false => rfl | true => exact absurd ((hcl (11, [10]) (by simp) h 10 (by simp)).symm.trans hf) (by decide))
            have n12 : f 12 = false := (by cases h : f 12 with | false => rfl | true => exact absurd ((hcl (12, [10]) (by simp) h 10 (by simp)).symm.trans hf) (by decide))
            have n14 : f 14 = false := (by cases h : f 14 with | false => rfl | true => exact absurd ((hcl (14, [11, 13]) (by simp) h 11 (by simp)).symm.trans n11) (by decide))
            have n15 : f 15 = false := (by cases h : f 15 with | false => rfl | true => exact absurd ((hcl (15, [12]) (by simp) h 12 (by simp)).symm.trans n12) (by decide))
            simp only [putAll, dstOf, List.getElem?_toArray, List.getElem?_cons_zero, List.getElem?_cons_succ, Option.bind_some]
            go_simp
            refine hK _ _ rfl (fun _ h => h) ?_
            exact {
              e := I.e
              c1 := fun _ h3 => absurd ((show f 3 = false from h3).symm.trans t3) (by decide)
              c3 := fun _ h5 => absurd ((show f 5 = false from h5).symm.trans t5) (by decide)
              c5 := fun _ h8 => absurd ((show f 8 = false from h8).symm.trans t8) (by decide)
              c6 := fun h6 => (I.c6 h6)
              c7 := fun _ h8 => absurd ((show f 8 = false from h8).symm.trans t8) (by decide)
              c8 := fun _ h9 => absurd ((show f 9 = false from h9).symm.trans t9) (by decide)
              c9 := fun h9 => (I.c9 h9)
              c10 := fun _ => rfl
              c11 := fun h11 => absurd ((show f 11 = true from h11).symm.trans n11) (by decide)
              c12 := fun h12 => absurd ((show f 12 = true from h12).symm.trans n12) (by decide)
              c15 := fun h15 => absurd ((show f 15 = true from h15).symm.trans n15) (by decide)
              c13 := fun h13 => (I.c13 h13)
              c39 := fun h9 h13 h14 => (I.c39 h9 h13 h14)
              c14 := fun h14 => absurd ((show f 14 = true from h14).symm.trans n14) (by decide)
            }
          · intro f v w hf hd hcl I K hK
            have t10 : f 10 = true := hd 10 (by simp)
            have t9 : f 9 = true := hcl (10, [9]) (by simp) t10 9 (by simp)
            have t8 : f 8 = true := hcl (9, [8]) (by simp) t9 8 (by simp)
            have t5 : f 5 = true := hcl (8, [5, 7]) (by simp) t8 5 (by simp)
            have t7 : f 7 = true := hcl (8, [5, 7]) (by simp) t8 7 (by simp)
            have t3 : f 3 = true := hcl (5, [3]) (by simp) t5 3 (by simp)
            have t6 : f 6 = true := hcl (7, [6]) (by simp) t7 6 (by simp)
            have t1 : f 1 = true := hcl (3, [1]) (by simp) t3 1 (by simp)
            have n14 : f 14 = false := (by cases h : f 14 with | false => rfl | true => exact absurd ((hcl (14, [11, 13]) (by simp) h 11 (by simp)).symm.trans hf) (by decide))
            simp only [putAll, dstOf, List.getElem?_toArray, List.getElem?_cons_zero, List.getElem?_cons_succ, Option.bind_some]
            obtain ⟨A1, n1, c1, D1, m1, d1, e9, _⟩ := I.c9 t9
            rw [I.c10 t10, e9]
            go_simp
            refine hK _ _ rfl (fun _ h => h) ?_
            exact {
              e := I.e
              c1 := fun _ h3 => absurd ((show f 3 = false from h3).symm.trans t3) (by decide)
              c3 := fun _ h5 => absurd ((show f 5 = false from h5).symm.trans t5) (by decide)
              c5 := fun _ h8 => absurd ((show f 8 = false from h8).symm.trans t8) (by decide)
              c6 := fun h6 => (I.c6 h6)
              c7 := fun _ h8 => absurd ((show f 8 = false from h8).symm.trans t8) (by decide)
              c8 := fun _ h9 => absurd ((show f 9 = false from h9).symm.trans t9) (by decide)
              c9 := fun h9 => (I.c9 h9)
              c10 := fun h10 => (I.c10 h10)
              c11 := fun _ => fun x y e => by have := e9.symm.trans e; simp only [Value.tuple.injEq, Array.mk.injEq, List.cons.injEq] at this; exact this.1
              c12 := fun h12 => (I.c12 h12)
              c15 := fun h15 => (I.c15 h15)
              c13 := fun h13 => (I.c13 h13)
              c39 := fun h9 h13 h14 => (I.c39 h9 h13 h14)
              c14 := fun h14 => absurd ((show f 14 = true from h14).symm.trans n14) (by decide)
            }
          · intro f v w hf hd hcl I K hK
            have t10 : f 10 = true := hd 10 (by simp)
            have t9 : f 9 = true := hcl (10, [9]) (by simp) t10 9 (by simp)
            have t8 : f 8 = true := hcl (9, [8]) (by simp) t9 8 (by simp)
            have t5 : f 5 = true := hcl (8, [5, 7]) (by simp) t8 5 (by simp)
            have t7 : f 7 = true := hcl (8, [5, 7]) (by simp) t8 7 (by simp)
            have t3 : f 3 = true := hcl (5, [3]) (by simp) t5 3 (by simp)
            have t6 : f 6 = true := hcl (7, [6]) (by simp) t7 6 (by simp)
            have t1 : f 1 = true := hcl (3, [1]) (by simp) t3 1 (by simp)
            have n15 : f 15 = false := (by cases h : f 15 with | false => rfl | true => exact absurd ((hcl (15, [12]) (by simp) h 12 (by simp)).symm.trans hf) (by decide))
            simp only [putAll, dstOf, List.getElem?_toArray, List.getElem?_cons_zero, List.getElem?_cons_succ, Option.bind_some]
            obtain ⟨A1, n1, c1, D1, m1, d1, e9, _⟩ := I.c9 t9
            rw [I.c10 t10, e9]
            go_simp
            refine hK _ _ rfl (fun _ h => h) ?_
            exact {
              e := I.e
              c1 := fun _ h3 => absurd ((show f 3 = false from h3).symm.trans t3) (by decide)
              c3 := fun _ h5 => absurd ((show f 5 = false from h5).symm.trans t5) (by decide)
              c5 := fun _ h8 => absurd ((show f 8 = false from h8).symm.trans t8) (by decide)
              c6 := fun h6 => (I.c6 h6)
              c7 := fun _ h8 => absurd ((show f 8 = false from h8).symm.trans t8) (by decide)
              c8 := fun _ h9 => absurd ((show f 9 = false from h9).symm.trans t9) (by decide)
              c9 := fun h9 => (I.c9 h9)
              c10 := fun h10 => (I.c10 h10)
              c11 := fun h11 => (I.c11 h11)
              c12 := fun _ => rfl
              c15 := fun h15 => absurd ((show f 15 = true from h15).symm.trans n15) (by decide)
              c13 := fun h13 => (I.c13 h13)
              c39 := fun h9 h13 h14 => (I.c39 h9 h13 h14)
              c14 := fun h14 => (I.c14 h14)
            }
          · intro f v w hf hd hcl I K hK
            have n14 : f 14 = false := (by cases h : f 14 with | false => rfl | true => exact absurd ((hcl (14, [11, 13]) (by simp) h 13 (by simp)).symm.trans hf) (by decide))
            simp only [putAll]
            go_simp
            have hx := Ext.new (ext_refl w) (.cells #[.slice none 0 0, .slice none 0 0] 54)
            refine hK _ _ rfl (fun _ h => h.then hx) ?_
            exact {
              e := I.e.then hx
              c1 := fun h1 h3 => own_ext (I.c1 h1 h3) hx
              c3 := fun h3 h5 => own_ext (I.c3 h3 h5) hx
              c5 := fun h5 h8 => own_ext (I.c5 h5 h8) hx
              c6 := fun h6 => (I.c6 h6)
              c7 := fun h7 h8 => by obtain ⟨g, e, r⟩ := (I.c7 h7 h8); exact ⟨g, e, r.keep hx⟩
              c8 := fun h8 h9 => by obtain ⟨C, c, e, r⟩ := (I.c8 h8 h9); exact ⟨C, c, e, r.keep hx⟩
              c9 := fun h9 => by obtain ⟨A, n, c, B, m, d, e, r⟩ := (I.c9 h9); exact ⟨A, n, c, B, m, d, e, fun h => (r h).keep hx⟩
              c10 := fun h10 => (I.c10 h10)
              c11 := fun h11 => (I.c11 h11)
              c12 := fun h12 => (I.c12 h12)
              c15 := fun h15 => (I.c15 h15)
              c13 := fun _ => ⟨_, rfl, I.e.size, fun _ => Blk.new _ _ _⟩
              c39 := fun h9 _ _ => by
                obtain ⟨A1, n1, c1, D1, m1, d1, e9, r9⟩ := I.c9 h9
                intro g' x y e1 e2 a b
                have e4 : Value.pointer (some ⟨w.heap.size, 0, none⟩) = .pointer (some ⟨g', 0, none⟩) := e1
                have e3 : w.heap.size = g' := by simpa using e4
                subst e3
                obtain ⟨rfl, _⟩ : Value.agg #[.slice A1 n1 c1, .slice D1 m1 d1] = x ∧ Value.int .i64 0 = y := by have e5 := e9.symm.trans e2; simpa using e5
                exact (r9 n14).keep (Ext.put (Ext.put hx (p := ⟨w.heap.size, 0, none⟩) (Nat.le_refl _) a) (p := ⟨w.heap.size, 1, none⟩) (Nat.le_refl _) b)
              c14 := fun h14 => absurd ((show f 14 = true from h14).symm.trans n14) (by decide)
            }
          · intro f v w hf hd hcl I K hK
            have t11 : f 11 = true := hd 11 (by simp)
            have t13 : f 13 = true := hd 13 (by simp)
            have t10 : f 10 = true := hcl (11, [10]) (by simp) t11 10 (by simp)
            have t9 : f 9 = true := hcl (10, [9]) (by simp) t10 9 (by simp)
            have t8 : f 8 = true := hcl (9, [8]) (by simp) t9 8 (by simp)
            have t5 : f 5 = true := hcl (8, [5, 7]) (by simp) t8 5 (by simp)
            have t7 : f 7 = true := hcl (8, [5, 7]) (by simp) t8 7 (by simp)
            have t3 : f 3 = true := hcl (5, [3]) (by simp) t5 3 (by simp)
            have t6 : f 6 = true := hcl (7, [6]) (by simp) t7 6 (by simp)
            have t1 : f 1 = true := hcl (3, [1]) (by simp) t3 1 (by simp)
            simp only [putAll, dstOf, List.getElem?_toArray, List.getElem?_cons_zero, List.getElem?_cons_succ, Option.bind_some]
            obtain ⟨A1, n1, c1, D1, m1, d1, e9, _⟩ := I.c9 t9
            obtain ⟨g, e13, hg, hb⟩ := I.c13 t13
            rw [I.c11 t11 _ _ e9, e13]
            have BG := hb hf
            have q0 := BG.cell 0
            have q1 := BG.cell 1
            have f0 := BG.frozen 0
            have f1 := BG.frozen 1
            have lg := BG.lt
            go_simp
            have hx2 := Ext.put (Ext.put I.e (p := ⟨g, 0, none⟩) hg (.slice A1 n1 c1)) (p := ⟨g, 1, none⟩) hg (.slice D1 m1 d1)
            refine hK _ _ rfl (fun _ h => Ext.put (Ext.put h (p := ⟨g, 0, none⟩) hg _) (p := ⟨g, 1, none⟩) hg _) ?_
            exact {
              e := hx2
              c1 := fun _ h3 => absurd ((show f 3 = false from h3).symm.trans t3) (by decide)
              c3 := fun _ h5 => absurd ((show f 5 = false from h5).symm.trans t5) (by decide)
              c5 := fun _ h8 => absurd ((show f 8 = false from h8).symm.trans t8) (by decide)
              c6 := fun h6 => (I.c6 h6)
              c7 := fun _ h8 => absurd ((show f 8 = false from h8).symm.trans t8) (by decide)
              c8 := fun _ h9 => absurd ((show f 9 = false from h9).symm.trans t9) (by decide)
              c9 := fun _ => ⟨A1, n1, c1, D1, m1, d1, e9, fun h => absurd (show true = false from h) (by decide)⟩
              c10 := fun h10 => (I.c10 h10)
              c11 := fun h11 => (I.c11 h11)
              c12 := fun h12 => (I.c12 h12)
              c15 := fun h15 => (I.c15 h15)
              c13 := fun _ => ⟨g, e13, hg, fun h => absurd (show true = false from h) (by decide)⟩
              c39 := fun _ _ h14 => absurd (show true = false from h14) (by decide)
              c14 := fun _ => ⟨g, A1, n1, c1, D1, m1, d1, e13, hg, ((BG.set 0 (.slice A1 n1 c1)).set 1 (.slice D1 m1 d1)).cast (by simp), I.c39 t9 t13 hf g _ _ e13 e9 _ _⟩
            }
          · intro f v w hf hd hcl I K hK
            have t12 : f 12 = true := hd 12 (by simp)
            have t10 : f 10 = true := hcl (12, [10]) (by simp) t12 10 (by simp)
            have t9 : f 9 = true := hcl (10, [9]) (by simp) t10 9 (by simp)
            have t8 : f 8 = true := hcl (9, [8]) (by simp) t9 8 (by simp)
            have t5 : f 5 = true := hcl (8, [5, 7]) (by simp) t8 5 (by simp)
            have t7 : f 7 = true := hcl (8, [5, 7]) (by simp) t8 7 (by simp)
            have t3 : f 3 = true := hcl (5, [3]) (by simp) t5 3 (by simp)
            have t6 : f 6 = true := hcl (7, [6]) (by simp) t7 6 (by simp)
            have t1 : f 1 = true := hcl (3, [1]) (by simp) t3 1 (by simp)
            simp only [putAll, dstOf, List.getElem?_toArray, List.getElem?_cons_zero, List.getElem?_cons_succ, Option.bind_some]
            rw [I.c12 t12]
            go_simp
            refine hK _ _ rfl (fun _ h => h) ?_
            exact {
              e := I.e
              c1 := fun _ h3 => absurd ((show f 3 = false from h3).symm.trans t3) (by decide)
              c3 := fun _ h5 => absurd ((show f 5 = false from h5).symm.trans t5) (by decide)
              c5 := fun _ h8 => absurd ((show f 8 = false from h8).symm.trans t8) (by decide)
              c6 := fun h6 => (I.c6 h6)
              c7 := fun _ h8 => absurd ((show f 8 = false from h8).symm.trans t8) (by decide)
              c8 := fun _ h9 => absurd ((show f 9 = false from h9).symm.trans t9) (by decide)
              c9 := fun h9 => (I.c9 h9)
              c10 := fun h10 => (I.c10 h10)
              c11 := fun h11 => (I.c11 h11)
              c12 := fun h12 => (I.c12 h12)
              c15 := fun _ => rfl
              c13 := fun h13 => (I.c13 h13)
              c39 := fun h9 h13 h14 => (I.c39 h9 h13 h14)
              c14 := fun h14 => (I.c14 h14)
            }
        · intro f v w' hall I
          obtain ⟨g, A1, n1, c1, D1, m1, d1, e13, hg, BG, VG⟩ := I.c14 (hall 14 (by simp))
          have e12 := I.c12 (hall 12 (by simp))
          have e15 := I.c15 (hall 15 (by simp))
          have XE := I.e
          simp only [List.map_cons, List.map_nil, putAll, dstOf, List.getElem?_toArray, List.getElem?_cons_zero, List.getElem?_cons_succ, Option.bind_some]
          rw [e12, e13, e15]
          simp only [Act.put, List.setIfInBounds_toArray, List.set_cons_zero, List.set_cons_succ]
          have QX := hid XE
          have XF := hid (Ext.then Q0.out XE)
          have BF := hid BG
          have VF := hid VG
          clear BG VG
          go_upto_region 15 with fail
          refine wp_gen (fun w' => Ext wz w' ∧ Blk w' g 54 #[.slice A1 n1 c1, .slice D1 m1 d1] ∧ TbV w' (.agg #[.slice A1 n1 c1, .slice D1 m1 d1]) TX ∧ Blk w' w3.heap.size 54 #[.slice Ar nr cr, .slice Dr mr dr] ∧ TbV w' (.agg #[.slice Ar nr cr, .slice Dr mr dr]) TX ∧ Blk w' w8.heap.size 54 #[.slice Ay ny cy, .slice Dy my dy] ∧ TbV w' (.agg #[.slice Ay ny cy, .slice Dy my dy]) TX) ⟨XF.out, BF.out, VF.out, Bx.out.keep QX.out, Vx.out.keep QX.out, By.out.keep QX.out, Vy.out.keep QX.out⟩ ?_
          rintro wr' ⟨x0, x1, x2, x3, x4, x5, x6⟩
          have X := hid x0
          have Bz := hid x1
          have Vz := hid x2
          have Bx := hid x3
          have Vx := hid x4
          have By := hid x5
          have Vy := hid x6
          clear x0 x1 x2 x3 x4 x5 x6
          have kBx0 := Bx.out.cell 0
          have kBx1 := Bx.out.cell 1
          have kBy0 := By.out.cell 0
          have kBy1 := By.out.cell 1
          go_wp2_with fail
          refine Calls.mono (HSM.out _ HBX.out _ _ _ Vx.out Vy.out) ?_
          rintro e w11 ⟨rfl, hx⟩
          replace X := hid (X.out.then hx)
          replace Bz := hid (Bz.out.keep hx)
          replace Vz := hid (Vz.out.keep hx)
          replace Bx := hid (Bx.out.keep hx)
          replace Vx := hid (Vx.out.keep hx)
          clear kBx0 kBx1 kBy0 kBy1 hx
          have kBx0 := Bx.out.cell 0
          have kBx1 := Bx.out.cell 1
          have kBz0 := Bz.out.cell 0
          have kBz1 := Bz.out.cell 1
          go_wp2_with fail
          refine Calls.mono (HSM.out _ HBX.out _ _ _ Vx.out Vz.out) ?_
          rintro e w12 ⟨rfl, hx⟩
          replace X := hid (X.out.then hx)
          clear kBx0 kBx1 kBz0 kBz1 hx
          go_wp2
          go_returns
          exact ⟨rfl, X0.out.then X.out⟩
    · have e1 : ((E2 : Int) == 0) = false := beq_eq_false_iff_ne.2 (by omega)
      have e2 : ((E2 : Int) != 0) = true := by simp; omega
      clear h0
      go_wp2
      go_returns
      exact ⟨rfl, X0.out.then X.out⟩
  · have e1 : ((E1 : Int) == 0) = false := beq_eq_false_iff_ne.2 (by omega)
    have e2 : ((E1 : Int) != 0) = true := by simp; omega
    have HTE2 := hid (HTE.out E1 (Tb.keepT t p) h0)
    clear h0
    have kBa0 := Ba.out.cell 0
    have kBa1 := Ba.out.cell 1
    go_wp2_with fail
    refine Calls.mono (HTE2.out _ _ Va.out) ?_
    rintro e w3 ⟨rfl, hx⟩
    replace X := hid (X.out.then hx)
    clear kBa0 kBa1 hx
    go_wp2
    go_returns
    exact ⟨rfl, X0.out.then X.out⟩
end Go.Proofs.YtolhifnlahllnaaDoor
