/- A region that draws its order and holds ONE alloc that waits for nothing (the cell of a variable that the statement declares): the calls and the reads are walked once, in the order of a plan; the alloc may come up anywhere among them; what stands behind it is forced. No program in sight. -/
import Derived.Test.YtolhifnlahllnaaDoorSto
import Derived.OrdersHeld
namespace Hy
open Go Go.RowKit
/-- operations that answer with a value -/
def valOp : Op → Bool
  | .move _ | .assign _ | .pick .. | .build .. | .load .. | .binOp .. | .unOp .. | .convert .. | .slice .. | .fieldAddr .. | .field .. | .indexAddr .. | .index .. | .extract .. | .nilCheck _ => true
  | _ => false
def goCall : Op → Bool
  | .call { callee := .value _, .. } => true
  | _ => false
theorem val_of_pure {P : Program} {α : Type} {s : Sem α} {f : α → Value} {n : Next} {w w' : World} (h : (s >>= fun x => pure (Next.value (f x)) : Sem Next).run P w = .ok n w') : ∃ u, n = .value u := by
  rw [Sem.run_bind] at h
  cases hr : s.run P w with
  | ok v w1 =>
    rw [hr] at h
    simp only [Result.andThen_ok, Sem.run_pure, Result.ok.injEq] at h
    exact ⟨_, h.1.symm⟩
  | halt x w1 => rw [hr] at h; cases h
theorem ok_bind {P : Program} {α β : Type} {s : Sem α} {f : α → Sem β} {r : β} {w w' : World} (h : (s >>= f).run P w = .ok r w') : ∃ x w1, (f x).run P w1 = .ok r w' := by
  rw [Sem.run_bind] at h
  cases hr : s.run P w with
  | ok v w1 => rw [hr] at h; exact ⟨v, w1, h⟩
  | halt x w1 => rw [hr] at h; cases h
theorem nil_value {P : Program} {ρ : Operand → Value} {x : Operand} {dst : Option Tmp} {type : TypeId} {pos : String} {after : Array Edge} {guard : Option (Nat × Bool)} {n : Next} {w w' : World} (h : (execOp ρ ⟨dst, .nilCheck x, type, pos, after, guard⟩).run P w = .ok n w') : ∃ u, n = .value u := by
  have pure' : ∀ {u : Value} {w1 : World}, (pure (Next.value u) : Sem Next).run P w1 = .ok n w' → ∃ u, n = .value u := fun h => by
    simp only [Sem.run_pure, Result.ok.injEq] at h; exact ⟨_, h.1.symm⟩
  have nope : ∀ {w1 : World}, (runtimePanic .nilDeref : Sem Next).run P w1 = .ok n w' → ∃ u, n = .value u := fun h => by
    simp [runtimePanic, Sem.run_bind] at h
  simp only [execOp] at h
  split at h
  · exact nope h
  · exact nope h
  · exact nope h
  · split at h
    · exact nope h
    · obtain ⟨_, _, h⟩ := ok_bind h
      obtain ⟨_, _, h⟩ := ok_bind h
      split at h
      · obtain ⟨_, _, h⟩ := ok_bind h
        exact pure' h
      · exact pure' h
    · exact pure' h
  · exact pure' h
theorem valOp_value {P : Program} {ρ : Operand → Value} {o : Oper} {n : Next} {w w' : World} (hv : valOp o.op = true) (h : (execOp ρ o).run P w = .ok n w') : ∃ u, n = .value u := by
  obtain ⟨dst, op, type, pos, after, guard⟩ := o
  cases op
  case nilCheck => exact nil_value h
  all_goals simp only [valOp, Bool.false_eq_true] at hv
  all_goals simp only [execOp] at h
  all_goals
    first
      | exact val_of_pure (f := id) h
      | exact val_of_pure h
      | (simp only [Sem.run_pure, Result.ok.injEq] at h; exact ⟨_, h.1.symm⟩)
/-- w' is w with blocks laid and draws counted -/
abbrev Cl (w : World) : World → Prop := fun w' => ∃ p : Regrown, w' = Go.Sort.grow (redrawn w p.d) p.os
theorem Cl.ext {w w' : World} (h : Cl w w') : Ext w w' := by obtain ⟨p, rfl⟩ := h; exact ext_regrown w p
theorem cl_of {w w' : World} (h : Ext w w') : Cl w w' := regrown_of_below h
section
variable {P : Program} {ops : Array Oper} {md : Region.Mode} {Q : Exit → Act → World → Prop}
def wpG (P : Program) (ops : Array Oper) (w : World) (R : Act → Prop) : List Oper → Act → Prop
  | [], a => R a
  | o :: r, a => if Region.wanted o (yielded ops a.tmps) then
      (valOp o.op = true ∧ o.quiet P a (fun w' => ∃ p : Regrown, w' = Go.Sort.grow (redrawn w p.d) p.os) (wpG P ops w R r)) ∨ (goCall o.op = true ∧ ∃ A, (∀ w1, Ext w w1 → o.quiet P a (fun w' => ∃ p : Regrown, w' = Go.Sort.grow (redrawn w1 p.d) p.os) (· = A)) ∧ wpG P ops w R r A)
    else wpG P ops w R r (a.put o.dst undef)
theorem wpG_nil {w : World} {R : Act → Prop} {a : Act} (h : R a) : wpG P ops w R [] a := h
theorem wpG_skip {w : World} {R : Act → Prop} {a : Act} {o : Oper} {r : List Oper} (hw : Region.wanted o (yielded ops a.tmps) = false) (h : wpG P ops w R r (a.put o.dst undef)) : wpG P ops w R (o :: r) a := by
  unfold wpG; rw [if_neg (by rw [hw]; decide)]; exact h
theorem wpG_val {w : World} {R : Act → Prop} {a : Act} {o : Oper} {r : List Oper} (hw : Region.wanted o (yielded ops a.tmps) = true) (hv : valOp o.op = true)
    (h : ∀ K : Act → Prop, (∀ a, wpG P ops w R r a → K a) → o.quiet P a (fun w' => ∃ p : Regrown, w' = Go.Sort.grow (redrawn w p.d) p.os) K) : wpG P ops w R (o :: r) a := by
  unfold wpG; rw [if_pos hw]; exact .inl ⟨hv, h _ fun _ h => h⟩
theorem wpG_call {w : World} {R : Act → Prop} {a : Act} {o : Oper} {r : List Oper} (hw : Region.wanted o (yielded ops a.tmps) = true) (hv : goCall o.op = true)
    (h : ∃ A, (∀ w1, Ext w w1 → o.quiet P a (fun w' => ∃ p : Regrown, w' = Go.Sort.grow (redrawn w1 p.d) p.os) (· = A)) ∧ wpG P ops w R r A) : wpG P ops w R (o :: r) a := by
  unfold wpG; rw [if_pos hw]; exact .inr ⟨hv, h⟩
theorem wpG_mono {w : World} {R R' : Act → Prop} (hR : ∀ a, R a → R' a) : ∀ (l : List Oper) (a : Act), wpG P ops w R l a → wpG P ops w R' l a
  | [], a, h => hR a h
  | o :: r, a, h => by
    unfold wpG at h ⊢
    split
    · rename_i hw
      rw [if_pos hw] at h
      rcases h with ⟨hv, h⟩ | ⟨hv, A, hq, h⟩
      · exact .inl ⟨hv, Oper.quiet_mono (fun a ha => wpG_mono hR r a ha) h⟩
      · exact .inr ⟨hv, A, hq, wpG_mono hR r A h⟩
    · rename_i hw
      rw [if_neg hw] at h
      exact wpG_mono hR r _ h
/-- the plan fits the region's edges -/
def planB (md : Region.Mode) (ops : Array Oper) (d : Nat) (od : Oper) : List Nat → Array Bool → Bool
  | [], s => (Region.ready md ops s).contains d && (Region.ready md ops s).all (· == d)
  | i :: r, s =>
    (match ops[i]? with
     | none => false
     | some oi => i != d && od.apart ops oi && oi.apart ops od && (Region.ready md ops s).contains i &&
        (if goCall oi.op then (Region.ready md ops s).all (fun j => j == i || j == d) && (Region.ready md ops (s.setIfInBounds d true)).all (· == i)
         else valOp oi.op && Region.free md ops s i)) && planB md ops d od r (s.setIfInBounds i true)
def setAll : List Nat → Array Bool → Array Bool
  | [], s => s
  | i :: r, s => setAll r (s.setIfInBounds i true)
theorem all_ready {l : List Nat} {f : Nat → Bool} (h : l.all f = true) {j : Nat} (hj : j ∈ l) : f j = true := List.all_eq_true.1 h j hj
/-- what an operation that comes up alone does -/
theorem fire_wanted {w' : World} {i : Nat} {oi : Oper} {a A : Act} {K : Act → World → Prop} (hi : ops[i]? = some oi) (hw : Region.wanted oi (yielded ops a.tmps) = true)
    (h : oi.quiet P a (fun w2 => ∃ p : Regrown, w2 = Go.Sort.grow (redrawn w' p.d) p.os) (· = A)) (hK : ∀ w'', Ext w' w'' → K A w'') : wpOp P ops Q i K a w' := by
  unfold wpOp
  simp only [hi, hw, if_true]
  refine .inl (Oper.wp_of_quiet (C := fun w2 => ∃ p : Regrown, w2 = Go.Sort.grow (redrawn w' p.d) p.os) (K := (· = A)) (cl_of (ext_refl w')) (fun a1 w1 hc ha => ?_) h)
  subst ha
  exact hK _ (Cl.ext hc)
theorem quiet_put {od oi : Oper} {a A : Act} {C : World → Prop} {v : Value} (hap : od.apart ops oi = true) (hsi : ∀ cs b, oi.op ≠ .select cs b)
    (h : oi.quiet P a C (· = A)) : oi.quiet P (a.put od.dst v) C (· = A.put od.dst v) := by
  obtain ⟨h1, h2, h3⟩ := Oper.apart_spec hap
  obtain ⟨u, hu, rfl⟩ := h
  refine ⟨u, fun w hw => ?_, (Act.put_comm a v u h2).symm ▸ rfl⟩
  have := hu w hw
  unfold Oper.quietAt at *
  rwa [execOp_put oi hsi a od.dst v h1]
theorem gho {w : World} {d : Nat} {od : Oper} {Φ : Value → World → Prop} (hd : ops[d]? = some od) (hdg : od.guard = none) (hsel : Region.noSelect ops = true)
    (hQ : ∀ c a x v w, Q (.panic c) (Act.put a (some x) v) w → Q (.panic c) a w)
    (hrun : ∀ (a : Act) w', Ext w w' → ∃ v w'', (execOp a.eval od).run P w' = .ok (.value v) w'' ∧ Ext w' w'' ∧ Φ v w'') (hΦ : ∀ v w1 w2, Φ v w1 → Ext w1 w2 → Φ v w2) (n : Nat) :
    ∀ (hs : List Nat) (s : Array Bool) (a : Act), planB md ops d od hs s = true →
      wpG P ops w (fun aH => ∀ w' v, Ext w w' → Φ v w' → wpAnyH P md ops Q (Ext w) n ((setAll hs s).setIfInBounds d true) (aH.put od.dst v) w') (hs.filterMap fun i => ops[i]?) a →
      (∀ w' v, Ext w w' → Φ v w' → wpAnyH P md ops Q (Ext w) (n + hs.length) (s.setIfInBounds d true) (a.put od.dst v) w') ∧
      (∀ w', Ext w w' → wpAnyH P md ops Q (Ext w) (n + hs.length + 1) s a w') := by
  have hsel' := Region.noSelect_spec hsel
  have hQ' : ∀ c a x v w, Q (.panic c) (Act.put a x v) w → Q (.panic c) a w := fun c a x v w h => by
    cases x with
    | none => exact h
    | some x => exact hQ c a x v w h
  have dgo : ∀ (m : Nat) (s : Array Bool) (a : Act) (w' : World), Ext w w' → (∀ w' v, Ext w w' → Φ v w' → wpAnyH P md ops Q (Ext w) m (s.setIfInBounds d true) (a.put od.dst v) w') →
      wpOp P ops Q d (fun a' w'' => Ext w w'' ∧ wpAnyH P md ops Q (Ext w) m (s.setIfInBounds d true) a' w'') a w' := fun m s a w' he h => by
    obtain ⟨v, w'', hr, h1, h2⟩ := hrun a w' he
    have hwt : Region.wanted od (yielded ops a.tmps) = true := by unfold Region.wanted; rw [hdg]
    unfold wpOp
    simp only [hd, hwt, if_true]
    refine .inl ?_
    unfold Oper.wp
    rw [hr]
    exact ⟨he.then h1, h _ _ (he.then h1) h2⟩
  intro hs
  induction hs with
  | nil =>
    intro s a hB H
    simp only [planB, Bool.and_eq_true] at hB
    refine ⟨H, fun w' he => ⟨fun h0 => ?_, fun j hj => ?_⟩⟩
    · have := hB.1; rw [h0] at this; cases this
    · have hjd : j = d := by simpa using all_ready hB.2 hj
      subst hjd
      exact dgo _ s a w' he H
  | cons i r ih =>
    intro s a hB H
    unfold planB at hB
    cases hi : ops[i]? with
    | none => rw [hi] at hB; simp at hB
    | some oi =>
      rw [hi] at hB
      simp only [Bool.and_eq_true, bne_iff_ne, ne_eq] at hB
      obtain ⟨⟨⟨⟨⟨hid, hap⟩, hap'⟩, hri⟩, hc⟩, hrest⟩ := hB
      have hri' : i ∈ Region.ready md ops s := by simpa using hri
      have hsi : ∀ cs b, oi.op ≠ .select cs b := fun cs b => hsel' i oi cs b hi
      obtain ⟨ap1, ap2, ap3⟩ := Oper.apart_spec hap
      have hlist : (i :: r).filterMap (fun i => ops[i]?) = oi :: r.filterMap (fun i => ops[i]?) := by simp [hi]
      rw [hlist] at H
      unfold wpG at H
      have hcomm : (s.setIfInBounds d true).setIfInBounds i true = (s.setIfInBounds i true).setIfInBounds d true := Array.setIfInBounds_comm _ _ (Ne.symm hid)
      by_cases hg : goCall oi.op = true
      · -- a call: it comes up alone, or beside the alloc
        simp only [hg, if_true, Bool.and_eq_true] at hc
        obtain ⟨hf1, hf2⟩ := hc
        have main : ∃ A, (∀ w1, Ext w w1 → ∀ K : Act → World → Prop, (∀ w'', Ext w1 w'' → K A w'') → wpOp P ops Q i K a w1) ∧
            (∀ w1 v, Ext w w1 → ∀ K : Act → World → Prop, (∀ w'', Ext w1 w'' → K (A.put od.dst v) w'') → wpOp P ops Q i K (a.put od.dst v) w1) ∧
            wpG P ops w (fun aH => ∀ w' v, Ext w w' → Φ v w' → wpAnyH P md ops Q (Ext w) n ((setAll (i :: r) s).setIfInBounds d true) (aH.put od.dst v) w') (r.filterMap fun i => ops[i]?) A := by
          by_cases hw : Region.wanted oi (yielded ops a.tmps) = true
          · rw [if_pos hw] at H
            rcases H with ⟨hv, _⟩ | ⟨_, A, hq, hG⟩
            · cases hop : oi.op <;> simp only [hop, valOp, goCall, Bool.false_eq_true] at hv hg
            · refine ⟨A, fun w1 he K hK => fire_wanted hi hw (hq w1 he) hK, fun w1 v he K hK => ?_, hG⟩
              exact fire_wanted hi (by rw [wanted_put oi a od.dst v ap1]; exact hw) (quiet_put hap hsi (hq w1 he)) hK
          · rw [if_neg hw] at H
            refine ⟨_, fun w1 he K hK => ?_, fun w1 v he K hK => ?_, H⟩
            · unfold wpOp; simp only [hi, hw]; exact hK _ (ext_refl _)
            · have hw2 : ¬ Region.wanted oi (yielded ops (a.put od.dst v).tmps) = true := by rw [wanted_put oi a od.dst v ap1]; exact hw
              unfold wpOp; simp only [hi, hw2]
              have := hK _ (ext_refl w1)
              rwa [Act.put_comm a undef v (fun e he hc => ap2 e hc he)] at this
        obtain ⟨A, m1, m2, hG⟩ := main
        obtain ⟨i2, i1⟩ := ih (s.setIfInBounds i true) A hrest hG
        have g2 : ∀ w' v, Ext w w' → Φ v w' → wpAnyH P md ops Q (Ext w) (n + (i :: r).length) (s.setIfInBounds d true) (a.put od.dst v) w' := fun w' v he hφ => by
          refine ⟨fun h0 => ?_, fun j hj => ?_⟩
          · have := ready_mono hri' hid
            rw [h0] at this; cases this
          · have hji : j = i := by simpa using all_ready hf2 hj
            subst hji
            refine m2 w' v he _ (fun w'' hx => ⟨he.then hx, ?_⟩)
            have := i2 w'' v (he.then hx) (hΦ v _ _ hφ hx)
            rw [hcomm]; exact this
        refine ⟨g2, fun w' he => ⟨fun h0 => (by rw [h0] at hri'; cases hri'), fun j hj => ?_⟩⟩
        have hj' := all_ready hf1 hj
        simp only [Bool.or_eq_true, beq_iff_eq] at hj'
        rcases hj' with rfl | rfl
        · exact m1 w' he _ (fun w'' hx => ⟨he.then hx, i1 w'' (he.then hx)⟩)
        · exact dgo _ s a w' he g2
      · -- it answers the same value whenever it comes up
        simp only [hg, if_false, Bool.and_eq_true, Bool.false_eq_true] at hc
        obtain ⟨hv, hf⟩ := hc
        have hfree := Region.free_spec hi hf
        have main : ∃ v, YieldsIf P ops (Ext w) oi v a ∧ wpG P ops w (fun aH => ∀ w' v, Ext w w' → Φ v w' → wpAnyH P md ops Q (Ext w) n ((setAll (i :: r) s).setIfInBounds d true) (aH.put od.dst v) w') (r.filterMap fun i => ops[i]?) (a.put oi.dst v) := by
          by_cases hw : Region.wanted oi (yielded ops a.tmps) = true
          · rw [if_pos hw] at H
            rcases H with ⟨_, u, hu, hG⟩ | ⟨hc, _⟩
            · refine ⟨u, .inl ⟨hw, fun w1 he => ?_⟩, hG⟩
              have h1 := hu w1 (cl_of he)
              unfold Oper.quietAt at h1
              cases hr : (execOp a.eval oi).run P w1 with
              | halt x w2 => rw [hr] at h1; exact h1.elim
              | ok nx w2 =>
                obtain ⟨u', rfl⟩ := valOp_value hv hr
                rw [hr] at h1
                simp only [Oper.quietUpon] at h1
                rw [h1.1, h1.2]
            · exact absurd hc hg
          · rw [if_neg hw] at H
            exact ⟨undef, .inr ⟨by simpa using hw, rfl⟩, H⟩
        obtain ⟨v, hy, hG⟩ := main
        obtain ⟨i2, i1⟩ := ih (s.setIfInBounds i true) _ hrest hG
        refine ⟨fun w' u he hφ => ?_, fun w' he => ?_⟩
        · refine wpAnyH_first hi hsel' (fun c a w h => hQ' c a _ _ w h) _ _ _ _ (fun j oj hj hne hun hno => hfree j oj hj hne ?_ hno) (ready_mono hri' hid)
            (hy.of_same (execOp_put oi hsi a od.dst u ap1) (wanted_put oi a od.dst u ap1)) he ?_
          · by_cases hjd : d = j
            · subst hjd
              rcases Nat.lt_or_ge d s.size with h' | h'
              · simp [h'] at hun
              · rw [Array.setIfInBounds_eq_of_size_le h'] at hun; exact hun
            · rw [getD_set_ne true hjd] at hun; exact hun
          · have := i2 w' u he hφ
            rw [hcomm, Act.put_comm a u v ap2]; exact this
        · exact wpAnyH_first hi hsel' (fun c a w h => hQ' c a _ _ w h) _ _ _ _ hfree hri' hy he (i1 w' he)
/-- what stands behind the alloc, one by one -/
def nextQ (Q : Exit → Act → World → Prop) (K : Act → World → Prop) : Exit → Act → World → Prop
  | .normal, a, w => K a w
  | e, a, w => Q e a w
def wpT (P : Program) (ops : Array Oper) (Q : Exit → Act → World → Prop) (w : World) : List Oper → Act → World → Prop
  | [], a, w' => Q .normal a w'
  | o :: r, a, w' => wpList P ops (nextQ Q fun a'' w'' => Ext w w'' ∧ wpT P ops Q w r a'' w'') [o] a w'
def tailB (md : Region.Mode) (ops : Array Oper) : List Nat → Array Bool → Bool
  | [], s => (Region.ready md ops s).isEmpty
  | i :: r, s => (ops[i]?).isSome && (Region.ready md ops s).contains i && (Region.ready md ops s).all (· == i) && tailB md ops r (s.setIfInBounds i true)
theorem wpOp_of_list {i : Nat} {o : Oper} {a : Act} {w' : World} {K : Act → World → Prop} (hi : ops[i]? = some o)
    (h : wpList P ops (nextQ Q K) [o] a w') : wpOp P ops Q i K a w' := by
  unfold wpList at h
  unfold wpOp
  simp only [hi]
  split
  · rename_i hw
    simp only [hw, if_true] at h
    rcases h with h | ⟨h1, h2⟩
    · refine .inl ?_
      unfold Oper.wp at *
      generalize (execOp a.eval o).run P w' = r at *
      cases r with
      | ok n w'' =>
        cases n <;> simp only [Oper.upon] at h ⊢ <;> first | exact h | (refine Calls.mono h fun e w2 he => ?_; cases e <;> exact he)
      | halt x w'' => cases x <;> simp only [Oper.upon] at h ⊢ <;> exact h
    · exact .inr ⟨h1, h2⟩
  · rename_i hw
    simp only [hw] at h
    exact h
theorem tail_any {w : World} : ∀ (ts : List Nat) (s : Array Bool) (a : Act) (w' : World), tailB md ops ts s = true → wpT P ops Q w (ts.filterMap fun i => ops[i]?) a w' → wpAnyH P md ops Q (Ext w) ts.length s a w'
  | [], s, a, w', hB, h => ⟨by simpa [tailB] using hB, h⟩
  | i :: r, s, a, w', hB, h => by
    simp only [tailB, Bool.and_eq_true] at hB
    obtain ⟨⟨⟨hs, hr⟩, hall⟩, hrest⟩ := hB
    obtain ⟨oi, hi⟩ := Option.isSome_iff_exists.1 hs
    have hr' : i ∈ Region.ready md ops s := by simpa using hr
    have hlist : (i :: r).filterMap (fun i => ops[i]?) = oi :: r.filterMap (fun i => ops[i]?) := by simp [hi]
    rw [hlist] at h
    refine ⟨fun h0 => (by rw [h0] at hr'; cases hr'), fun j hj => ?_⟩
    have hji : j = i := by simpa using all_ready hall hj
    subst hji
    exact wpOp_mono (fun a' w'' hx => ⟨hx.1, tail_any r _ a' w'' hrest hx.2⟩) (wpOp_of_list hi h)
theorem wpT_nil {w w' : World} {a : Act} (h : Q .normal a w') : wpT P ops Q w [] a w' := h
theorem wpT_assign {w w' : World} {a : Act} {o : Oper} {r : List Oper} (hg : o.guard = none) (x : Operand) (v : Value) (ho : o.op = .assign x) (hv : a.eval x = v) (hx : Ext w w') (h : wpT P ops Q w r (a.put o.dst v) w') : wpT P ops Q w (o :: r) a w' := by
  refine wpList_plain hg fun K hK => ?_
  unfold Oper.wp
  simp only [execOp, ho, hv, Sem.run_pure]
  exact hK _ _ (And.intro hx h)
theorem wpT_store {w w' : World} {a : Act} {o : Oper} {r : List Oper} (hgd : o.guard = none) (ty : TypeId) (x y : Operand) (ho : o.op = .store ty x y)
    (g : Nat) (cells : Array Value) (hx : a.eval x = .pointer (some ⟨g, 0, none⟩)) (hy : a.eval y = .agg cells)
    (t : TypeId) (old : Array Value) (hg : Blk w' g t old) (hi : (P.info? ty).map (·.size) = some cells.size)
    (hold : old.size = cells.size) (h1 : cells.all (·.oneCell') = true) (hb : w.heap.size ≤ g) (he : Ext w w')
    (h : ∀ w'', Blk w'' g t cells → (∀ g' t' cs', g' ≠ g → Blk w' g' t' cs' → Blk w'' g' t' cs') → Ext w w'' → wpT P ops Q w r (a.put o.dst undef) w'') : wpT P ops Q w (o :: r) a w' :=
  wpList_store_blk hgd ty x y ho g cells hx hy t old hg hi hold h1 w.heap.size hb fun w'' hB hF hL => by
    have hx2 : Ext w w'' := Below.trans he hL
    exact And.intro hx2 (h w'' hB hF hx2)
theorem wp_region_ghost {id : Nat} {a : Act} {w : World} {l : List Oper} (hs : List Nat) (d : Nat) (ts : List Nat) (od : Oper) (td : Tmp) (T : TypeId) (z : Array Value)
    (hm : P.follows .mixedOrders = true) (hd : l.toArray[d]? = some od) (hdg : od.guard = none) (hdd : od.dst = some td) (hop : od.op = .alloc T) (hsel : Region.noSelect l.toArray = true)
    (hQ : ∀ c a x v w, Q (.panic c) (Act.put a (some x) v) w → Q (.panic c) a w)
    (hz : ∀ w, (Instr.alloc T true (.tuple #[])).run P w = .ok (.pointer (some ⟨w.heap.size, 0, none⟩)) (w.alloc (.cells z T)))
    (hB : planB .any l.toArray d od hs (Array.replicate l.toArray.size false) = true)
    (hT : tailB .any l.toArray ts ((setAll hs (Array.replicate l.toArray.size false)).setIfInBounds d true) = true) (hn : l.length = ts.length + hs.length + 1)
    (h : wpG P l.toArray w (fun aH => ∀ w' g, Ext w w' → w.heap.size ≤ g → Blk w' g T z → wpT P l.toArray Q w (ts.filterMap fun i => l.toArray[i]?) (aH.put (some td) (.pointer (some ⟨g, 0, none⟩))) w') (hs.filterMap fun i => l.toArray[i]?) a) :
    (Code.region id l.toArray true).wp P Q a w := by
  have := (gho (P := P) (ops := l.toArray) (md := .any) (Q := Q) (w := w) (d := d) (od := od) (Φ := fun v w' => ∃ g, v = .pointer (some ⟨g, 0, none⟩) ∧ w.heap.size ≤ g ∧ Blk w' g T z) hd hdg hsel hQ
    (fun a w' he => ⟨_, _, by simp only [execOp, hop]; rw [Sem.run_bind, hz w']; rfl, (ext_refl w').new _, w'.heap.size, rfl, he.size, Blk.new w' T z⟩)
    (fun v w1 w2 ⟨g, e, hg, hb⟩ hx => ⟨g, e, hg, hb.keep hx⟩) ts.length hs _ a hB ?_).2 { w with drawn := w.drawn + 1 } (ext_refl w).draw
  · refine wp_region_held (S := Ext w) hm ?_
    have e : l.toArray.size = ts.length + hs.length + 1 := by simpa using hn
    rw [e]
    rw [e] at this
    exact this
  · revert h
    generalize (hs.filterMap fun i => l.toArray[i]?) = L
    intro h
    refine wpG_mono (fun aH hR => ?_) L a h
    rintro w' v he ⟨g, rfl, hg, hb⟩
    rw [hdd]
    exact tail_any ts _ _ w' hT (hR w' g he hg hb)
/-- the plan of a region that holds no such alloc -/
def planP (md : Region.Mode) (ops : Array Oper) : List Nat → Array Bool → Bool
  | [], _ => true
  | i :: r, s =>
    (match ops[i]? with
     | none => false
     | some oi => (Region.ready md ops s).contains i &&
        (if goCall oi.op then (Region.ready md ops s).all (· == i) else valOp oi.op && Region.free md ops s i)) && planP md ops r (s.setIfInBounds i true)
theorem pla {w0 w : World} (h0 : Ext w0 w) (hsel : Region.noSelect ops = true) (hQ : ∀ c a x v w, Q (.panic c) (Act.put a (some x) v) w → Q (.panic c) a w) (n : Nat) :
    ∀ (hs : List Nat) (s : Array Bool) (a : Act), planP md ops hs s = true →
      wpG P ops w0 (fun aH => ∀ w', Ext w w' → wpAnyH P md ops Q (Ext w0) n (setAll hs s) aH w') (hs.filterMap fun i => ops[i]?) a →
      ∀ w', Ext w w' → wpAnyH P md ops Q (Ext w0) (n + hs.length) s a w' := by
  have hsel' := Region.noSelect_spec hsel
  have hQ' : ∀ c a x v w, Q (.panic c) (Act.put a x v) w → Q (.panic c) a w := fun c a x v w h => by
    cases x with
    | none => exact h
    | some x => exact hQ c a x v w h
  intro hs
  induction hs with
  | nil => intro s a _ H; exact H
  | cons i r ih =>
    intro s a hB H
    unfold planP at hB
    cases hi : ops[i]? with
    | none => rw [hi] at hB; simp at hB
    | some oi =>
      rw [hi] at hB
      simp only [Bool.and_eq_true] at hB
      obtain ⟨⟨hri, hc⟩, hrest⟩ := hB
      have hri' : i ∈ Region.ready md ops s := by simpa using hri
      have hlist : (i :: r).filterMap (fun i => ops[i]?) = oi :: r.filterMap (fun i => ops[i]?) := by simp [hi]
      rw [hlist] at H
      unfold wpG at H
      by_cases hg : goCall oi.op = true
      · simp only [hg, if_true] at hc
        have main : ∃ A, (∀ w1, Ext w0 w1 → ∀ K : Act → World → Prop, (∀ w'', Ext w1 w'' → K A w'') → wpOp P ops Q i K a w1) ∧
            wpG P ops w0 (fun aH => ∀ w', Ext w w' → wpAnyH P md ops Q (Ext w0) n (setAll (i :: r) s) aH w') (r.filterMap fun i => ops[i]?) A := by
          by_cases hw : Region.wanted oi (yielded ops a.tmps) = true
          · rw [if_pos hw] at H
            rcases H with ⟨hv, _⟩ | ⟨_, A, hq, hG⟩
            · cases hop : oi.op <;> simp only [hop, valOp, goCall, Bool.false_eq_true] at hv hg
            · exact ⟨A, fun w1 he K hK => fire_wanted hi hw (hq w1 he) hK, hG⟩
          · rw [if_neg hw] at H
            refine ⟨_, fun w1 he K hK => ?_, H⟩
            unfold wpOp; simp only [hi, hw]; exact hK _ (ext_refl _)
        obtain ⟨A, m1, hG⟩ := main
        have i1 := ih (s.setIfInBounds i true) A hrest hG
        refine fun w' he => ⟨fun h00 => (by rw [h00] at hri'; cases hri'), fun j hj => ?_⟩
        have hji : j = i := by simpa using all_ready hc hj
        subst hji
        exact m1 w' (h0.then he) _ (fun w'' hx => ⟨(h0.then he).then hx, i1 w'' (he.then hx)⟩)
      · simp only [hg, if_false, Bool.and_eq_true, Bool.false_eq_true] at hc
        obtain ⟨hv, hf⟩ := hc
        have main : ∃ v, YieldsIf P ops (Ext w0) oi v a ∧ wpG P ops w0 (fun aH => ∀ w', Ext w w' → wpAnyH P md ops Q (Ext w0) n (setAll (i :: r) s) aH w') (r.filterMap fun i => ops[i]?) (a.put oi.dst v) := by
          by_cases hw : Region.wanted oi (yielded ops a.tmps) = true
          · rw [if_pos hw] at H
            rcases H with ⟨_, u, hu, hG⟩ | ⟨hc, _⟩
            · refine ⟨u, .inl ⟨hw, fun w1 he => ?_⟩, hG⟩
              have h1 := hu w1 (cl_of he)
              unfold Oper.quietAt at h1
              cases hr : (execOp a.eval oi).run P w1 with
              | halt x w2 => rw [hr] at h1; exact h1.elim
              | ok nx w2 =>
                obtain ⟨u', rfl⟩ := valOp_value hv hr
                rw [hr] at h1
                simp only [Oper.quietUpon] at h1
                rw [h1.1, h1.2]
            · exact absurd hc hg
          · rw [if_neg hw] at H
            exact ⟨undef, .inr ⟨by simpa using hw, rfl⟩, H⟩
        obtain ⟨v, hy, hG⟩ := main
        have i1 := ih (s.setIfInBounds i true) _ hrest hG
        exact fun w' he => wpAnyH_first hi hsel' (fun c a w h => hQ' c a _ _ w h) _ _ _ _ (Region.free_spec hi hf) hri' hy (h0.then he) (i1 w' he)
/-- calls and reads by a plan, from a world w that extends w0 on; what stands behind them is forced -/
theorem wp_region_plan {id : Nat} {a : Act} {w0 w : World} {l : List Oper} (hs ts : List Nat) (h0 : Ext w0 w)
    (hm : P.follows .mixedOrders = true) (hsel : Region.noSelect l.toArray = true)
    (hQ : ∀ c a x v w, Q (.panic c) (Act.put a (some x) v) w → Q (.panic c) a w)
    (hB : planP .any l.toArray hs (Array.replicate l.toArray.size false) = true)
    (hT : tailB .any l.toArray ts (setAll hs (Array.replicate l.toArray.size false)) = true) (hn : l.length = ts.length + hs.length)
    (h : wpG P l.toArray w0 (fun aH => ∀ w', Ext w w' → wpT P l.toArray Q w0 (ts.filterMap fun i => l.toArray[i]?) aH w') (hs.filterMap fun i => l.toArray[i]?) a) :
    (Code.region id l.toArray true).wp P Q a w := by
  have := pla (P := P) (ops := l.toArray) (md := .any) (Q := Q) (w := w) h0 hsel hQ ts.length hs _ a hB (wpG_mono (fun aH hR w' he => tail_any ts _ _ w' hT (hR w' he)) _ a h) { w with drawn := w.drawn + 1 } (ext_refl w).draw
  refine wp_region_held (S := Ext w0) hm ?_
  have e : l.toArray.size = ts.length + hs.length := by simpa using hn
  rw [e]
  rw [e] at this
  exact this
/-! ### a walk by a plan: (number, is it taken first?); the others come up alone, and are walked in the world at hand -/
def planM (md : Region.Mode) (ops : Array Oper) : List (Nat × Bool) → Array Bool → Bool
  | [], s => (Region.ready md ops s).isEmpty
  | (i, b) :: r, s =>
    (match ops[i]? with
     | none => false
     | some oi => (Region.ready md ops s).contains i &&
        (if b then valOp oi.op && Region.free md ops s i else (Region.ready md ops s).all (· == i))) && planM md ops r (s.setIfInBounds i true)
def wpM (P : Program) (ops : Array Oper) (Q : Exit → Act → World → Prop) (w0 : World) : List (Oper × Bool) → Act → World → Prop
  | [], a, w => Q .normal a w
  | (o, b) :: r, a, w => if Region.wanted o (yielded ops a.tmps) then
      (if b then o.quiet P a (fun w' => ∃ p : Regrown, w' = Go.Sort.grow (redrawn w0 p.d) p.os) (fun a' => wpM P ops Q w0 r a' w) else o.wp P a w (fun a' w' => Ext w0 w' ∧ wpM P ops Q w0 r a' w') Q)
    else wpM P ops Q w0 r (a.put o.dst undef) w
theorem wpM_nil {w0 w : World} {a : Act} (h : Q .normal a w) : wpM P ops Q w0 [] a w := h
theorem wpM_skip {w0 w : World} {a : Act} {o : Oper} {b : Bool} {r : List (Oper × Bool)} (hw : Region.wanted o (yielded ops a.tmps) = false) (h : wpM P ops Q w0 r (a.put o.dst undef) w) : wpM P ops Q w0 ((o, b) :: r) a w := by
  unfold wpM; rw [if_neg (by rw [hw]; decide)]; exact h
theorem wpM_val {w0 w : World} {a : Act} {o : Oper} {r : List (Oper × Bool)} (hw : Region.wanted o (yielded ops a.tmps) = true)
    (h : ∀ K : Act → Prop, (∀ a', wpM P ops Q w0 r a' w → K a') → o.quiet P a (fun w' => ∃ p : Regrown, w' = Go.Sort.grow (redrawn w0 p.d) p.os) K) : wpM P ops Q w0 ((o, true) :: r) a w := by
  unfold wpM; rw [if_pos hw, if_pos rfl]; exact h _ fun _ h => h
theorem wpM_do {w0 w : World} {a : Act} {o : Oper} {r : List (Oper × Bool)} (hw : Region.wanted o (yielded ops a.tmps) = true)
    (h : ∀ K : Act → World → Prop, (∀ a' w', Ext w0 w' → wpM P ops Q w0 r a' w' → K a' w') → o.wp P a w K Q) : wpM P ops Q w0 ((o, false) :: r) a w := by
  unfold wpM; rw [if_pos hw, if_neg (by decide)]; exact h _ fun _ _ h1 h2 => ⟨h1, h2⟩
theorem plm {w0 : World} (hsel : Region.noSelect ops = true) (hQ : ∀ c a x v w, Q (.panic c) (Act.put a (some x) v) w → Q (.panic c) a w) :
    ∀ (hs : List (Nat × Bool)) (s : Array Bool) (a : Act) (w : World), planM md ops hs s = true → Ext w0 w →
      wpM P ops Q w0 (hs.filterMap fun x => (ops[x.1]?).map fun o => (o, x.2)) a w → wpAnyH P md ops Q (Ext w0) hs.length s a w := by
  have hsel' := Region.noSelect_spec hsel
  have hQ' : ∀ c a x v w, Q (.panic c) (Act.put a x v) w → Q (.panic c) a w := fun c a x v w h => by
    cases x with
    | none => exact h
    | some x => exact hQ c a x v w h
  intro hs
  induction hs with
  | nil => intro s a w hB _ H; exact ⟨by simpa [planM] using hB, H⟩
  | cons x r ih =>
    obtain ⟨i, b⟩ := x
    intro s a w hB he H
    unfold planM at hB
    cases hi : ops[i]? with
    | none => rw [hi] at hB; simp at hB
    | some oi =>
      rw [hi] at hB
      simp only [Bool.and_eq_true] at hB
      obtain ⟨⟨hri, hc⟩, hrest⟩ := hB
      have hri' : i ∈ Region.ready md ops s := by simpa using hri
      have hlist : ((i, b) :: r).filterMap (fun x => (ops[x.1]?).map fun o => (o, x.2)) = (oi, b) :: r.filterMap (fun x => (ops[x.1]?).map fun o => (o, x.2)) := by simp [hi]
      rw [hlist] at H
      unfold wpM at H
      cases b with
      | true =>
        simp only [if_true, Bool.and_eq_true] at hc H
        obtain ⟨hv, hf⟩ := hc
        have main : ∃ v, YieldsIf P ops (Ext w0) oi v a ∧ wpM P ops Q w0 (r.filterMap fun x => (ops[x.1]?).map fun o => (o, x.2)) (a.put oi.dst v) w := by
          by_cases hw : Region.wanted oi (yielded ops a.tmps) = true
          · rw [if_pos hw] at H
            obtain ⟨u, hu, hG⟩ := H
            refine ⟨u, .inl ⟨hw, fun w1 he => ?_⟩, hG⟩
            have h1 := hu w1 (cl_of he)
            unfold Oper.quietAt at h1
            cases hr : (execOp a.eval oi).run P w1 with
            | halt x w2 => rw [hr] at h1; exact h1.elim
            | ok nx w2 =>
              obtain ⟨u', rfl⟩ := valOp_value hv hr
              rw [hr] at h1
              simp only [Oper.quietUpon] at h1
              rw [h1.1, h1.2]
          · rw [if_neg hw] at H
            exact ⟨undef, .inr ⟨by simpa using hw, rfl⟩, H⟩
        obtain ⟨v, hy, hG⟩ := main
        exact wpAnyH_first hi hsel' (fun c a w h => hQ' c a _ _ w h) _ _ _ _ (Region.free_spec hi hf) hri' hy he (ih _ _ w hrest he hG)
      | false =>
        simp only [if_false, Bool.false_eq_true] at hc H
        refine ⟨fun h0 => (by rw [h0] at hri'; cases hri'), fun j hj => ?_⟩
        have hji : j = i := by simpa using all_ready hc hj
        subst hji
        unfold wpOp
        simp only [hi]
        split
        · rename_i hw
          rw [if_pos hw] at H
          exact .inl (Oper.wp_mono (fun a' w' hx => ⟨hx.1, ih _ a' w' hrest hx.1 hx.2⟩) H)
        · rename_i hw
          rw [if_neg hw] at H
          exact ⟨he, ih _ _ w hrest he H⟩
theorem wp_region_walk {id : Nat} {a : Act} {w : World} {l : List Oper} (hs : List (Nat × Bool))
    (hm : P.follows .mixedOrders = true) (hsel : Region.noSelect l.toArray = true)
    (hQ : ∀ c a x v w, Q (.panic c) (Act.put a (some x) v) w → Q (.panic c) a w)
    (hB : planM .any l.toArray hs (Array.replicate l.toArray.size false) = true) (hn : l.length = hs.length)
    (h : wpM P l.toArray Q w (hs.filterMap fun x => (l.toArray[x.1]?).map fun o => (o, x.2)) a w.drew) : (Code.region id l.toArray true).wp P Q a w := by
  have := plm (P := P) (ops := l.toArray) (md := .any) (Q := Q) (w0 := w) hsel hQ hs _ a w.drew hB (ext_refl w).draw h
  refine wp_region_held (S := Ext w) hm ?_
  have e : l.toArray.size = hs.length := by simpa using hn
  rw [e]
  rw [e] at this
  exact this
/-! ### a walk by a tree: where two operations may come up, both orders are walked -/
inductive Tr where
  | nil
  | one (i : Nat) (b : Bool) (t : Tr)
  | two (i j : Nat) (t u : Tr)
inductive TrO where
  | nil
  | one (o : Oper) (b : Bool) (t : TrO)
  | two (o p : Oper) (t u : TrO)
def fillT (l : List Oper) : Tr → TrO
  | .nil => .nil
  | .one i b t => .one (l.getD i default) b (fillT l t)
  | .two i j t u => .two (l.getD i default) (l.getD j default) (fillT l t) (fillT l u)
def Tr.len : Tr → Nat
  | .nil => 0
  | .one _ _ t => t.len + 1
  | .two _ _ t _ => t.len + 1
def planT (md : Region.Mode) (ops : Array Oper) : Tr → Array Bool → Bool
  | .nil, s => (Region.ready md ops s).isEmpty
  | .one i b t, s =>
    (match ops[i]? with
     | none => false
     | some oi => (Region.ready md ops s).contains i &&
        (if b then valOp oi.op && Region.free md ops s i else (Region.ready md ops s).all (· == i))) && planT md ops t (s.setIfInBounds i true)
  | .two i j t u, s => (ops[i]?).isSome && (ops[j]?).isSome && (Region.ready md ops s).contains i && (Region.ready md ops s).all (fun k => k == i || k == j) && (t.len == u.len) &&
      planT md ops t (s.setIfInBounds i true) && planT md ops u (s.setIfInBounds j true)
def wpTO (P : Program) (ops : Array Oper) (Q : Exit → Act → World → Prop) (w0 : World) : TrO → Act → World → Prop
  | .nil, a, w => Q .normal a w
  | .one o b r, a, w => if Region.wanted o (yielded ops a.tmps) then
      (if b then o.quiet P a (fun w' => ∃ p : Regrown, w' = Go.Sort.grow (redrawn w0 p.d) p.os) (fun a' => wpTO P ops Q w0 r a' w) else o.wp P a w (fun a' w' => Ext w0 w' ∧ wpTO P ops Q w0 r a' w') Q)
    else wpTO P ops Q w0 r (a.put o.dst undef) w
  | .two o p r q, a, w => (if Region.wanted o (yielded ops a.tmps) then o.wp P a w (fun a' w' => Ext w0 w' ∧ wpTO P ops Q w0 r a' w') Q else wpTO P ops Q w0 r (a.put o.dst undef) w) ∧
      (if Region.wanted p (yielded ops a.tmps) then p.wp P a w (fun a' w' => Ext w0 w' ∧ wpTO P ops Q w0 q a' w') Q else wpTO P ops Q w0 q (a.put p.dst undef) w)
theorem wpTO_nil {w0 w : World} {a : Act} (h : Q .normal a w) : wpTO P ops Q w0 .nil a w := h
theorem wpTO_skip {w0 w : World} {a : Act} {o : Oper} {b : Bool} {r : TrO} (hw : Region.wanted o (yielded ops a.tmps) = false) (h : wpTO P ops Q w0 r (a.put o.dst undef) w) : wpTO P ops Q w0 (.one o b r) a w := by
  unfold wpTO; rw [if_neg (by rw [hw]; decide)]; exact h
theorem wpTO_val {w0 w : World} {a : Act} {o : Oper} {r : TrO} (hw : Region.wanted o (yielded ops a.tmps) = true)
    (h : ∀ K : Act → Prop, (∀ a', wpTO P ops Q w0 r a' w → K a') → o.quiet P a (fun w' => ∃ p : Regrown, w' = Go.Sort.grow (redrawn w0 p.d) p.os) K) : wpTO P ops Q w0 (.one o true r) a w := by
  unfold wpTO; rw [if_pos hw, if_pos rfl]; exact h _ fun _ h => h
theorem wpTO_do {w0 w : World} {a : Act} {o : Oper} {r : TrO} (hw : Region.wanted o (yielded ops a.tmps) = true)
    (h : ∀ K : Act → World → Prop, (∀ a' w', Ext w0 w' → wpTO P ops Q w0 r a' w' → K a' w') → o.wp P a w K Q) : wpTO P ops Q w0 (.one o false r) a w := by
  unfold wpTO; rw [if_pos hw, if_neg (by decide)]; exact h _ fun _ _ h1 h2 => ⟨h1, h2⟩
theorem wpTO_two {w0 w : World} {a : Act} {o p : Oper} {r q : TrO} (h1 : wpTO P ops Q w0 (.one o false r) a w) (h2 : wpTO P ops Q w0 (.one p false q) a w) : wpTO P ops Q w0 (.two o p r q) a w := by
  unfold wpTO at *
  simp only [Bool.false_eq_true, if_false] at h1 h2
  exact ⟨h1, h2⟩
theorem getD_of {l : List Oper} {i : Nat} {o : Oper} (h : l.toArray[i]? = some o) : l.getD i default = o := by
  rw [List.getElem?_toArray] at h
  rw [List.getD_eq_getElem?_getD, h]; rfl
theorem pltr {w0 : World} {l : List Oper} (hsel : Region.noSelect l.toArray = true) (hQ : ∀ c a x v w, Q (.panic c) (Act.put a (some x) v) w → Q (.panic c) a w) :
    ∀ (t : Tr) (s : Array Bool) (a : Act) (w : World), planT md l.toArray t s = true → Ext w0 w →
      wpTO P l.toArray Q w0 (fillT l t) a w → wpAnyH P md l.toArray Q (Ext w0) t.len s a w := by
  have hsel' := Region.noSelect_spec hsel
  have hQ' : ∀ c a x v w, Q (.panic c) (Act.put a x v) w → Q (.panic c) a w := fun c a x v w h => by
    cases x with
    | none => exact h
    | some x => exact hQ c a x v w h
  intro t
  induction t with
  | nil => intro s a w hB _ H; exact ⟨by simpa [planT] using hB, H⟩
  | one i b r ih =>
    intro s a w hB he H
    unfold planT at hB
    cases hi : l.toArray[i]? with
    | none => rw [hi] at hB; simp at hB
    | some oi =>
      rw [hi] at hB
      simp only [Bool.and_eq_true] at hB
      obtain ⟨⟨hri, hc⟩, hrest⟩ := hB
      have hri' : i ∈ Region.ready md l.toArray s := by simpa using hri
      unfold fillT at H
      rw [getD_of hi] at H
      unfold wpTO at H
      cases b with
      | true =>
        simp only [if_true, Bool.and_eq_true] at hc H
        obtain ⟨hv, hf⟩ := hc
        have main : ∃ v, YieldsIf P l.toArray (Ext w0) oi v a ∧ wpTO P l.toArray Q w0 (fillT l r) (a.put oi.dst v) w := by
          by_cases hw : Region.wanted oi (yielded l.toArray a.tmps) = true
          · rw [if_pos hw] at H
            obtain ⟨u, hu, hG⟩ := H
            refine ⟨u, .inl ⟨hw, fun w1 he => ?_⟩, hG⟩
            have h1 := hu w1 (cl_of he)
            unfold Oper.quietAt at h1
            cases hr : (execOp a.eval oi).run P w1 with
            | halt x w2 => rw [hr] at h1; exact h1.elim
            | ok nx w2 =>
              obtain ⟨u', rfl⟩ := valOp_value hv hr
              rw [hr] at h1
              simp only [Oper.quietUpon] at h1
              rw [h1.1, h1.2]
          · rw [if_neg hw] at H
            exact ⟨undef, .inr ⟨by simpa using hw, rfl⟩, H⟩
        obtain ⟨v, hy, hG⟩ := main
        exact wpAnyH_first hi hsel' (fun c a w h => hQ' c a _ _ w h) _ _ _ _ (Region.free_spec hi hf) hri' hy he (ih _ _ w hrest he hG)
      | false =>
        simp only [if_false, Bool.false_eq_true] at hc H
        refine ⟨fun h0 => (by rw [h0] at hri'; cases hri'), fun j hj => ?_⟩
        have hji : j = i := by simpa using all_ready hc hj
        subst hji
        unfold wpOp
        simp only [hi]
        split
        · rename_i hw
          rw [if_pos hw] at H
          exact .inl (Oper.wp_mono (fun a' w' hx => ⟨hx.1, ih _ a' w' hrest hx.1 hx.2⟩) H)
        · rename_i hw
          rw [if_neg hw] at H
          exact ⟨he, ih _ _ w hrest he H⟩
  | two i j r q ih1 ih2 =>
    intro s a w hB he H
    simp only [planT, Bool.and_eq_true, beq_iff_eq] at hB
    obtain ⟨⟨⟨⟨⟨⟨hsi, hsj⟩, hri⟩, hall⟩, hlen⟩, hr1⟩, hr2⟩ := hB
    obtain ⟨oi, hi⟩ := Option.isSome_iff_exists.1 hsi
    obtain ⟨oj, hj⟩ := Option.isSome_iff_exists.1 hsj
    have hri' : i ∈ Region.ready md l.toArray s := by simpa using hri
    unfold fillT at H
    rw [getD_of hi, getD_of hj] at H
    unfold wpTO at H
    obtain ⟨H1, H2⟩ := H
    refine ⟨fun h0 => (by rw [h0] at hri'; cases hri'), fun k hk => ?_⟩
    have hk' := all_ready hall hk
    simp only [Bool.or_eq_true, beq_iff_eq] at hk'
    rcases hk' with rfl | rfl
    · unfold wpOp
      simp only [hi]
      split
      · rename_i hw
        rw [if_pos hw] at H1
        exact .inl (Oper.wp_mono (fun a' w' hx => ⟨hx.1, ih1 _ a' w' hr1 hx.1 hx.2⟩) H1)
      · rename_i hw
        rw [if_neg hw] at H1
        exact ⟨he, ih1 _ _ w hr1 he H1⟩
    · unfold wpOp
      simp only [hj]
      split
      · rename_i hw
        rw [if_pos hw] at H2
        exact .inl (Oper.wp_mono (fun a' w' hx => ⟨hx.1, hlen ▸ ih2 _ a' w' hr2 hx.1 hx.2⟩) H2)
      · rename_i hw
        rw [if_neg hw] at H2
        exact ⟨he, hlen ▸ ih2 _ _ w hr2 he H2⟩
theorem wp_region_tree {id : Nat} {a : Act} {w : World} {l : List Oper} (t : Tr)
    (hm : P.follows .mixedOrders = true) (hsel : Region.noSelect l.toArray = true)
    (hQ : ∀ c a x v w, Q (.panic c) (Act.put a (some x) v) w → Q (.panic c) a w)
    (hB : planT .any l.toArray t (Array.replicate l.toArray.size false) = true) (hn : l.length = t.len)
    (h : wpTO P l.toArray Q w (fillT l t) a w.drew) : (Code.region id l.toArray true).wp P Q a w := by
  have := pltr (P := P) (md := .any) (Q := Q) (w0 := w) hsel hQ t _ a w.drew hB (ext_refl w).draw h
  refine wp_region_held (S := Ext w) hm ?_
  have e : l.toArray.size = t.len := by simpa using hn
  rw [e]
  rw [e] at this
  exact this
end
end Hy
