/- Texts of this claim, put together: walks and plain laws. -/
import Derived.Test.YthgnipangcmanaaGreatZG1
import Derived.OrdersHeld
section
section
namespace Hy
open Go Go.RowKit
def valOp : Op → Bool
  | .move _ | .assign _ | .pick .. | .build .. | .load .. | .binOp .. | .unOp .. | .convert .. | .slice .. | .fieldAddr .. | .field .. | .indexAddr .. | .index .. | .extract .. | .nilCheck _ => true
  | .call { callee := .builtin .len, .. } => true
  | _ => false
def goCall : Op → Bool
  | .call { callee := .value _, .. } => true
  | _ => false
theorem val_not_go {o : Op} (h1 : valOp o = true) (h2 : goCall o = true) : False := by
  cases o
  case call c =>
    obtain ⟨callee, args, argTypes⟩ := c
    cases callee with
    | builtin b => simp only [goCall, Bool.false_eq_true] at h2
    | _ => simp only [valOp, Bool.false_eq_true] at h1
  all_goals simp only [goCall, Bool.false_eq_true] at h2
theorem val_of_pure {P : Program} {α : Type} {s : Sem α} {f : α → Value} {n : Next} {w w' : World} (h : (s >>= fun x => pure (Next.value (f x)) : Sem Next).run P w = .ok n w') : ∃ u, n = .value u := by
  rw [Sem.run_bind] at h
  cases hr : s.run P w with
  | ok v w1 =>
    rw [hr] at h
    simp only [Result.andThen_ok, Sem.run_pure, Result.ok.injEq] at h
    exact ⟨_, h.1.symm⟩
  | halt x w1 => rw [hr] at h; cases h
theorem ok_bind {P : Program} {α β : Type} {s : Sem α} {f : α → Sem β} {r : β} {w w' : World} (h : (s >>= f).run P w = .ok r w') : ∃ x w1, (f x).run P w1 = .ok r w' := by
  rw [Sem.run_bind] at h
  cases hr : s.run P w with
  | ok v w1 => rw [hr] at h; exact ⟨v, w1, h⟩
  | halt x w1 => rw [hr] at h; cases h
theorem nil_value {P : Program} {ρ : Operand → Value} {x : Operand} {dst : Option Tmp} {type : TypeId} {pos : String} {after : Array Edge} {guard : Option (Nat × Bool)} {n : Next} {w w' : World} (h : (execOp ρ ⟨dst, .nilCheck x, type, pos, after, guard⟩).run P w = .ok n w') : ∃ u, n = .value u := by
  have pure' : ∀ {u : Value} {w1 : World}, (pure (Next.value u) : Sem Next).run P w1 = .ok n w' → ∃ u, n = .value u := fun h => by
    simp only [Sem.run_pure, Result.ok.injEq] at h; exact ⟨_, h.1.symm⟩
  have nope : ∀ {w1 : World}, (runtimePanic .nilDeref : Sem Next).run P w1 = .ok n w' → ∃ u, n = .value u := fun h => by
    simp [runtimePanic, Sem.run_bind] at h
  simp only [execOp] at h
  split at h
  · exact nope h
  · exact nope h
  · exact nope h
  · split at h
    · exact nope h
    · obtain ⟨_, _, h⟩ := ok_bind h
      obtain ⟨_, _, h⟩ := ok_bind h
      split at h
      · obtain ⟨_, _, h⟩ := ok_bind h
        exact pure' h
      · exact pure' h
    · exact pure' h
  · exact pure' h
theorem valOp_value {P : Program} {ρ : Operand → Value} {o : Oper} {n : Next} {w w' : World} (hv : valOp o.op = true) (h : (execOp ρ o).run P w = .ok n w') : ∃ u, n = .value u := by
  obtain ⟨dst, op, type, pos, after, guard⟩ := o
  cases op
  case nilCheck => exact nil_value h
  case call c =>
    obtain ⟨callee, args, argTypes⟩ := c
    cases callee with
    | builtin b => cases b <;> first | (simp only [valOp, Bool.false_eq_true] at hv; done) | exact val_of_pure (s := Builtin.len_ argTypes type (args.map ρ)) (f := id) h
    | _ => simp only [valOp, Bool.false_eq_true] at hv
  all_goals simp only [valOp, Bool.false_eq_true] at hv
  all_goals simp only [execOp] at h
  all_goals
    first
      | exact val_of_pure (f := id) h
      | exact val_of_pure h
      | (simp only [Sem.run_pure, Result.ok.injEq] at h; exact ⟨_, h.1.symm⟩)
abbrev Cl (w : World) : World → Prop := fun w' => ∃ p : Regrown, w' = Go.Sort.grow (redrawn w p.d) p.os
theorem Cl.ext {w w' : World} (h : Cl w w') : Ext w w' := by obtain ⟨p, rfl⟩ := h; exact ext_regrown w p
theorem cl_of {w w' : World} (h : Ext w w') : Cl w w' := regrown_of_below h
section
variable {P : Program} {ops : Array Oper} {md : Region.Mode} {Q : Exit → Act → World → Prop}
def wpG (P : Program) (ops : Array Oper) (w : World) (R : Act → Prop) : List Oper → Act → Prop
  | [], a => R a
  | o :: r, a => if Region.wanted o (yielded ops a.tmps) then
      (valOp o.op = true ∧ o.quiet P a (fun w' => ∃ p : Regrown, w' = Go.Sort.grow (redrawn w p.d) p.os) (wpG P ops w R r)) ∨ (goCall o.op = true ∧ ∃ A, (∀ w1, Ext w w1 → o.quiet P a (fun w' => ∃ p : Regrown, w' = Go.Sort.grow (redrawn w1 p.d) p.os) (· = A)) ∧ wpG P ops w R r A)
    else wpG P ops w R r (a.put o.dst undef)
theorem wpG_nil {w : World} {R : Act → Prop} {a : Act} (h : R a) : wpG P ops w R [] a := h
theorem wpG_val {w : World} {R : Act → Prop} {a : Act} {o : Oper} {r : List Oper} (hw : Region.wanted o (yielded ops a.tmps) = true) (hv : valOp o.op = true)
    (h : ∀ K : Act → Prop, (∀ a, wpG P ops w R r a → K a) → o.quiet P a (fun w' => ∃ p : Regrown, w' = Go.Sort.grow (redrawn w p.d) p.os) K) : wpG P ops w R (o :: r) a := by
  unfold wpG; rw [if_pos hw]; exact .inl ⟨hv, h _ fun _ h => h⟩
theorem wpG_mono {w : World} {R R' : Act → Prop} (hR : ∀ a, R a → R' a) : ∀ (l : List Oper) (a : Act), wpG P ops w R l a → wpG P ops w R' l a
  | [], a, h => hR a h
  | o :: r, a, h => by
    unfold wpG at h ⊢
    split
    · rename_i hw
      rw [if_pos hw] at h
      rcases h with ⟨hv, h⟩ | ⟨hv, A, hq, h⟩
      · exact .inl ⟨hv, Oper.quiet_mono (fun a ha => wpG_mono hR r a ha) h⟩
      · exact .inr ⟨hv, A, hq, wpG_mono hR r A h⟩
    · rename_i hw
      rw [if_neg hw] at h
      exact wpG_mono hR r _ h
def setAll : List Nat → Array Bool → Array Bool
  | [], s => s
  | i :: r, s => setAll r (s.setIfInBounds i true)
theorem all_ready {l : List Nat} {f : Nat → Bool} (h : l.all f = true) {j : Nat} (hj : j ∈ l) : f j = true := List.all_eq_true.1 h j hj
theorem fire_wanted {w' : World} {i : Nat} {oi : Oper} {a A : Act} {K : Act → World → Prop} (hi : ops[i]? = some oi) (hw : Region.wanted oi (yielded ops a.tmps) = true)
    (h : oi.quiet P a (fun w2 => ∃ p : Regrown, w2 = Go.Sort.grow (redrawn w' p.d) p.os) (· = A)) (hK : ∀ w'', Ext w' w'' → K A w'') : wpOp P ops Q i K a w' := by
  unfold wpOp
  simp only [hi, hw, if_true]
  refine .inl (Oper.wp_of_quiet (C := fun w2 => ∃ p : Regrown, w2 = Go.Sort.grow (redrawn w' p.d) p.os) (K := (· = A)) (cl_of (ext_refl w')) (fun a1 w1 hc ha => ?_) h)
  subst ha
  exact hK _ (Cl.ext hc)
def nextQ (Q : Exit → Act → World → Prop) (K : Act → World → Prop) : Exit → Act → World → Prop
  | .normal, a, w => K a w
  | e, a, w => Q e a w
def wpT (P : Program) (ops : Array Oper) (Q : Exit → Act → World → Prop) (w : World) : List Oper → Act → World → Prop
  | [], a, w' => Q .normal a w'
  | o :: r, a, w' => wpList P ops (nextQ Q fun a'' w'' => Ext w w'' ∧ wpT P ops Q w r a'' w'') [o] a w'
def tailB (md : Region.Mode) (ops : Array Oper) : List Nat → Array Bool → Bool
  | [], s => (Region.ready md ops s).isEmpty
  | i :: r, s => (ops[i]?).isSome && (Region.ready md ops s).contains i && (Region.ready md ops s).all (· == i) && tailB md ops r (s.setIfInBounds i true)
theorem wpOp_of_list {i : Nat} {o : Oper} {a : Act} {w' : World} {K : Act → World → Prop} (hi : ops[i]? = some o)
    (h : wpList P ops (nextQ Q K) [o] a w') : wpOp P ops Q i K a w' := by
  unfold wpList at h
  unfold wpOp
  simp only [hi]
  split
  · rename_i hw
    simp only [hw, if_true] at h
    rcases h with h | ⟨h1, h2⟩
    · refine .inl ?_
      unfold Oper.wp at *
      generalize (execOp a.eval o).run P w' = r at *
      cases r with
      | ok n w'' =>
        cases n <;> simp only [Oper.upon] at h ⊢ <;> first | exact h | (refine Calls.mono h fun e w2 he => ?_; cases e <;> exact he)
      | halt x w'' => cases x <;> simp only [Oper.upon] at h ⊢ <;> exact h
    · exact .inr ⟨h1, h2⟩
  · rename_i hw
    simp only [hw] at h
    exact h
theorem tail_any {w : World} : ∀ (ts : List Nat) (s : Array Bool) (a : Act) (w' : World), tailB md ops ts s = true → wpT P ops Q w (ts.filterMap fun i => ops[i]?) a w' → wpAnyH P md ops Q (Ext w) ts.length s a w'
  | [], s, a, w', hB, h => ⟨by simpa [tailB] using hB, h⟩
  | i :: r, s, a, w', hB, h => by
    simp only [tailB, Bool.and_eq_true] at hB
    obtain ⟨⟨⟨hs, hr⟩, hall⟩, hrest⟩ := hB
    obtain ⟨oi, hi⟩ := Option.isSome_iff_exists.1 hs
    have hr' : i ∈ Region.ready md ops s := by simpa using hr
    have hlist : (i :: r).filterMap (fun i => ops[i]?) = oi :: r.filterMap (fun i => ops[i]?) := by simp [hi]
    rw [hlist] at h
    refine ⟨fun h0 => (by rw [h0] at hr'; cases hr'), fun j hj => ?_⟩
    have hji : j = i := by simpa using all_ready hall hj
    subst hji
    exact wpOp_mono (fun a' w'' hx => ⟨hx.1, tail_any r _ a' w'' hrest hx.2⟩) (wpOp_of_list hi h)
theorem wpT_nil {w w' : World} {a : Act} (h : Q .normal a w') : wpT P ops Q w [] a w' := h
theorem wpT_assign {w w' : World} {a : Act} {o : Oper} {r : List Oper} (hg : o.guard = none) (x : Operand) (v : Value) (ho : o.op = .assign x) (hv : a.eval x = v) (hx : Ext w w') (h : wpT P ops Q w r (a.put o.dst v) w') : wpT P ops Q w (o :: r) a w' := by
  refine wpList_plain hg fun K hK => ?_
  unfold Oper.wp
  simp only [execOp, ho, hv, Sem.run_pure]
  exact hK _ _ (And.intro hx h)
theorem wpT_store {w w' : World} {a : Act} {o : Oper} {r : List Oper} (hgd : o.guard = none) (ty : TypeId) (x y : Operand) (ho : o.op = .store ty x y)
    (g : Nat) (cells : Array Value) (hx : a.eval x = .pointer (some ⟨g, 0, none⟩)) (hy : a.eval y = .agg cells)
    (t : TypeId) (old : Array Value) (hg : Blk w' g t old) (hi : (P.info? ty).map (·.size) = some cells.size)
    (hold : old.size = cells.size) (h1 : cells.all (·.oneCell') = true) (hb : w.heap.size ≤ g) (he : Ext w w')
    (h : ∀ w'', Blk w'' g t cells → (∀ g' t' cs', g' ≠ g → Blk w' g' t' cs' → Blk w'' g' t' cs') → Ext w w'' → wpT P ops Q w r (a.put o.dst undef) w'') : wpT P ops Q w (o :: r) a w' :=
  wpList_store_blk hgd ty x y ho g cells hx hy t old hg hi hold h1 w.heap.size hb fun w'' hB hF hL => by
    have hx2 : Ext w w'' := Below.trans he hL
    exact And.intro hx2 (h w'' hB hF hx2)
def planP (md : Region.Mode) (ops : Array Oper) : List Nat → Array Bool → Bool
  | [], _ => true
  | i :: r, s =>
    (match ops[i]? with
     | none => false
     | some oi => (Region.ready md ops s).contains i &&
        (if goCall oi.op then (Region.ready md ops s).all (· == i) else valOp oi.op && Region.free md ops s i)) && planP md ops r (s.setIfInBounds i true)
theorem pla {w0 w : World} (h0 : Ext w0 w) (hsel : Region.noSelect ops = true) (hQ : ∀ c a x v w, Q (.panic c) (Act.put a (some x) v) w → Q (.panic c) a w) (n : Nat) :
    ∀ (hs : List Nat) (s : Array Bool) (a : Act), planP md ops hs s = true →
      wpG P ops w0 (fun aH => ∀ w', Ext w w' → wpAnyH P md ops Q (Ext w0) n (setAll hs s) aH w') (hs.filterMap fun i => ops[i]?) a →
      ∀ w', Ext w w' → wpAnyH P md ops Q (Ext w0) (n + hs.length) s a w' := by
  have hsel' := Region.noSelect_spec hsel
  have hQ' : ∀ c a x v w, Q (.panic c) (Act.put a x v) w → Q (.panic c) a w := fun c a x v w h => by
    cases x with
    | none => exact h
    | some x => exact hQ c a x v w h
  intro hs
  induction hs with
  | nil => intro s a _ H; exact H
  | cons i r ih =>
    intro s a hB H
    unfold planP at hB
    cases hi : ops[i]? with
    | none => rw [hi] at hB; simp at hB
    | some oi =>
      rw [hi] at hB
      simp only [Bool.and_eq_true] at hB
      obtain ⟨⟨hri, hc⟩, hrest⟩ := hB
      have hri' : i ∈ Region.ready md ops s := by simpa using hri
      have hlist : (i :: r).filterMap (fun i => ops[i]?) = oi :: r.filterMap (fun i => ops[i]?) := by simp [hi]
      rw [hlist] at H
      unfold wpG at H
      by_cases hg : goCall oi.op = true
      · simp only [hg, if_true] at hc
        have main : ∃ A, (∀ w1, Ext w0 w1 → ∀ K : Act → World → Prop, (∀ w'', Ext w1 w'' → K A w'') → wpOp P ops Q i K a w1) ∧
            wpG P ops w0 (fun aH => ∀ w', Ext w w' → wpAnyH P md ops Q (Ext w0) n (setAll (i :: r) s) aH w') (r.filterMap fun i => ops[i]?) A := by
          by_cases hw : Region.wanted oi (yielded ops a.tmps) = true
          · rw [if_pos hw] at H
            rcases H with ⟨hv, _⟩ | ⟨_, A, hq, hG⟩
            · exact (val_not_go hv hg).elim
            · exact ⟨A, fun w1 he K hK => fire_wanted hi hw (hq w1 he) hK, hG⟩
          · rw [if_neg hw] at H
            refine ⟨_, fun w1 he K hK => ?_, H⟩
            unfold wpOp; simp only [hi, hw]; exact hK _ (ext_refl _)
        obtain ⟨A, m1, hG⟩ := main
        have i1 := ih (s.setIfInBounds i true) A hrest hG
        refine fun w' he => ⟨fun h00 => (by rw [h00] at hri'; cases hri'), fun j hj => ?_⟩
        have hji : j = i := by simpa using all_ready hc hj
        subst hji
        exact m1 w' (h0.then he) _ (fun w'' hx => ⟨(h0.then he).then hx, i1 w'' (he.then hx)⟩)
      · simp only [hg, if_false, Bool.and_eq_true, Bool.false_eq_true] at hc
        obtain ⟨hv, hf⟩ := hc
        have main : ∃ v, YieldsIf P ops (Ext w0) oi v a ∧ wpG P ops w0 (fun aH => ∀ w', Ext w w' → wpAnyH P md ops Q (Ext w0) n (setAll (i :: r) s) aH w') (r.filterMap fun i => ops[i]?) (a.put oi.dst v) := by
          by_cases hw : Region.wanted oi (yielded ops a.tmps) = true
          · rw [if_pos hw] at H
            rcases H with ⟨_, u, hu, hG⟩ | ⟨hc, _⟩
            · refine ⟨u, .inl ⟨hw, fun w1 he => ?_⟩, hG⟩
              have h1 := hu w1 (cl_of he)
              unfold Oper.quietAt at h1
              cases hr : (execOp a.eval oi).run P w1 with
              | halt x w2 => rw [hr] at h1; exact h1.elim
              | ok nx w2 =>
                obtain ⟨u', rfl⟩ := valOp_value hv hr
                rw [hr] at h1
                simp only [Oper.quietUpon] at h1
                rw [h1.1, h1.2]
            · exact absurd hc hg
          · rw [if_neg hw] at H
            exact ⟨undef, .inr ⟨by simpa using hw, rfl⟩, H⟩
        obtain ⟨v, hy, hG⟩ := main
        have i1 := ih (s.setIfInBounds i true) _ hrest hG
        exact fun w' he => wpAnyH_first hi hsel' (fun c a w h => hQ' c a _ _ w h) _ _ _ _ (Region.free_spec hi hf) hri' hy (h0.then he) (i1 w' he)
theorem wp_region_plan {id : Nat} {a : Act} {w0 w : World} {l : List Oper} (hs ts : List Nat) (h0 : Ext w0 w)
    (hm : P.follows .mixedOrders = true) (hsel : Region.noSelect l.toArray = true)
    (hQ : ∀ c a x v w, Q (.panic c) (Act.put a (some x) v) w → Q (.panic c) a w)
    (hB : planP .any l.toArray hs (Array.replicate l.toArray.size false) = true)
    (hT : tailB .any l.toArray ts (setAll hs (Array.replicate l.toArray.size false)) = true) (hn : l.length = ts.length + hs.length)
    (h : wpG P l.toArray w0 (fun aH => ∀ w', Ext w w' → wpT P l.toArray Q w0 (ts.filterMap fun i => l.toArray[i]?) aH w') (hs.filterMap fun i => l.toArray[i]?) a) :
    (Code.region id l.toArray true).wp P Q a w := by
  have := pla (P := P) (ops := l.toArray) (md := .any) (Q := Q) (w := w) h0 hsel hQ ts.length hs _ a hB (wpG_mono (fun aH hR w' he => tail_any ts _ _ w' hT (hR w' he)) _ a h) { w with drawn := w.drawn + 1 } (ext_refl w).draw
  refine wp_region_held (S := Ext w0) hm ?_
  have e : l.toArray.size = ts.length + hs.length := by simpa using hn
  rw [e]
  rw [e] at this
  exact this
/-! ### a walk by a plan: (number, is it taken first?); the others come up alone, and are walked in the world at hand -/
def planM (md : Region.Mode) (ops : Array Oper) : List (Nat × Bool) → Array Bool → Bool
  | [], s => (Region.ready md ops s).isEmpty
  | (i, b) :: r, s =>
    (match ops[i]? with
     | none => false
     | some oi => (Region.ready md ops s).contains i &&
        (if b then valOp oi.op && Region.free md ops s i else (Region.ready md ops s).all (· == i))) && planM md ops r (s.setIfInBounds i true)
def wpM (P : Program) (ops : Array Oper) (Q : Exit → Act → World → Prop) (w0 : World) : List (Oper × Bool) → Act → World → Prop
  | [], a, w => Q .normal a w
  | (o, b) :: r, a, w => if Region.wanted o (yielded ops a.tmps) then
      (if b then o.quiet P a (fun w' => ∃ p : Regrown, w' = Go.Sort.grow (redrawn w0 p.d) p.os) (fun a' => wpM P ops Q w0 r a' w) else o.wp P a w (fun a' w' => Ext w0 w' ∧ wpM P ops Q w0 r a' w') Q)
    else wpM P ops Q w0 r (a.put o.dst undef) w
theorem wpM_nil {w0 w : World} {a : Act} (h : Q .normal a w) : wpM P ops Q w0 [] a w := h
theorem wpM_val {w0 w : World} {a : Act} {o : Oper} {r : List (Oper × Bool)} (hw : Region.wanted o (yielded ops a.tmps) = true)
    (h : ∀ K : Act → Prop, (∀ a', wpM P ops Q w0 r a' w → K a') → o.quiet P a (fun w' => ∃ p : Regrown, w' = Go.Sort.grow (redrawn w0 p.d) p.os) K) : wpM P ops Q w0 ((o, true) :: r) a w := by
  unfold wpM; rw [if_pos hw, if_pos rfl]; exact h _ fun _ h => h
theorem wpM_do {w0 w : World} {a : Act} {o : Oper} {r : List (Oper × Bool)} (hw : Region.wanted o (yielded ops a.tmps) = true)
    (h : ∀ K : Act → World → Prop, (∀ a' w', Ext w0 w' → wpM P ops Q w0 r a' w' → K a' w') → o.wp P a w K Q) : wpM P ops Q w0 ((o, false) :: r) a w := by
  unfold wpM; rw [if_pos hw, if_neg (by decide)]; exact h _ fun _ _ h1 h2 => ⟨h1, h2⟩
theorem plm {w0 : World} (hsel : Region.noSelect ops = true) (hQ : ∀ c a x v w, Q (.panic c) (Act.put a (some x) v) w → Q (.panic c) a w) :
    ∀ (hs : List (Nat × Bool)) (s : Array Bool) (a : Act) (w : World), planM md ops hs s = true → Ext w0 w →
      wpM P ops Q w0 (hs.filterMap fun x => (ops[x.1]?).map fun o => (o, x.2)) a w → wpAnyH P md ops Q (Ext w0) hs.length s a w := by
  have hsel' := Region.noSelect_spec hsel
  have hQ' : ∀ c a x v w, Q (.panic c) (Act.put a x v) w → Q (.panic c) a w := fun c a x v w h => by
    cases x with
    | none => exact h
    | some x => exact hQ c a x v w h
  intro hs
  induction hs with
  | nil => intro s a w hB _ H; exact ⟨by simpa [planM] using hB, H⟩
  | cons x r ih =>
    obtain ⟨i, b⟩ := x
    intro s a w hB he H
    unfold planM at hB
    cases hi : ops[i]? with
    | none => rw [hi] at hB; simp at hB
    | some oi =>
      rw [hi] at hB
      simp only [Bool.and_eq_true] at hB
      obtain ⟨⟨hri, hc⟩, hrest⟩ := hB
      have hri' : i ∈ Region.ready md ops s := by simpa using hri
      have hlist : ((i, b) :: r).filterMap (fun x => (ops[x.1]?).map fun o => (o, x.2)) = (oi, b) :: r.filterMap (fun x => (ops[x.1]?).map fun o => (o, x.2)) := by simp [hi]
      rw [hlist] at H
      unfold wpM at H
      cases b with
      | true =>
        simp only [if_true, Bool.and_eq_true] at hc H
        obtain ⟨hv, hf⟩ := hc
        have main : ∃ v, YieldsIf P ops (Ext w0) oi v a ∧ wpM P ops Q w0 (r.filterMap fun x => (ops[x.1]?).map fun o => (o, x.2)) (a.put oi.dst v) w := by
          by_cases hw : Region.wanted oi (yielded ops a.tmps) = true
          · rw [if_pos hw] at H
            obtain ⟨u, hu, hG⟩ := H
            refine ⟨u, .inl ⟨hw, fun w1 he => ?_⟩, hG⟩
            have h1 := hu w1 (cl_of he)
            unfold Oper.quietAt at h1
            cases hr : (execOp a.eval oi).run P w1 with
            | halt x w2 => rw [hr] at h1; exact h1.elim
            | ok nx w2 =>
              obtain ⟨u', rfl⟩ := valOp_value hv hr
              rw [hr] at h1
              simp only [Oper.quietUpon] at h1
              rw [h1.1, h1.2]
          · rw [if_neg hw] at H
            exact ⟨undef, .inr ⟨by simpa using hw, rfl⟩, H⟩
        obtain ⟨v, hy, hG⟩ := main
        exact wpAnyH_first hi hsel' (fun c a w h => hQ' c a _ _ w h) _ _ _ _ (Region.free_spec hi hf) hri' hy he (ih _ _ w hrest he hG)
      | false =>
        simp only [if_false, Bool.false_eq_true] at hc H
        refine ⟨fun h0 => (by rw [h0] at hri'; cases hri'), fun j hj => ?_⟩
        have hji : j = i := by simpa using all_ready hc hj
        subst hji
        unfold wpOp
        simp only [hi]
        split
        · rename_i hw
          rw [if_pos hw] at H
          exact .inl (Oper.wp_mono (fun a' w' hx => ⟨hx.1, ih _ a' w' hrest hx.1 hx.2⟩) H)
        · rename_i hw
          rw [if_neg hw] at H
          exact ⟨he, ih _ _ w hrest he H⟩
theorem wp_region_walk {id : Nat} {a : Act} {w : World} {l : List Oper} (hs : List (Nat × Bool))
    (hm : P.follows .mixedOrders = true) (hsel : Region.noSelect l.toArray = true)
    (hQ : ∀ c a x v w, Q (.panic c) (Act.put a (some x) v) w → Q (.panic c) a w)
    (hB : planM .any l.toArray hs (Array.replicate l.toArray.size false) = true) (hn : l.length = hs.length)
    (h : wpM P l.toArray Q w (hs.filterMap fun x => (l.toArray[x.1]?).map fun o => (o, x.2)) a w.drew) : (Code.region id l.toArray true).wp P Q a w := by
  have := plm (P := P) (ops := l.toArray) (md := .any) (Q := Q) (w0 := w) hsel hQ hs _ a w.drew hB (ext_refl w).draw h
  refine wp_region_held (S := Ext w) hm ?_
  have e : l.toArray.size = hs.length := by simpa using hn
  rw [e]
  rw [e] at this
  exact this
/-! ### a walk by a tree: where two operations may come up, both orders are walked -/
inductive Tr where
  | nil
  | one (i : Nat) (b : Bool) (t : Tr)
  | two (i j : Nat) (t u : Tr)
inductive TrO where
  | nil
  | one (o : Oper) (b : Bool) (t : TrO)
  | two (o p : Oper) (t u : TrO)
def fillT (l : List Oper) : Tr → TrO
  | .nil => .nil
  | .one i b t => .one (l.getD i default) b (fillT l t)
  | .two i j t u => .two (l.getD i default) (l.getD j default) (fillT l t) (fillT l u)
def Tr.len : Tr → Nat
  | .nil => 0
  | .one _ _ t => t.len + 1
  | .two _ _ t _ => t.len + 1
def planT (md : Region.Mode) (ops : Array Oper) : Tr → Array Bool → Bool
  | .nil, s => (Region.ready md ops s).isEmpty
  | .one i b t, s =>
    (match ops[i]? with
     | none => false
     | some oi => (Region.ready md ops s).contains i &&
        (if b then valOp oi.op && Region.free md ops s i else (Region.ready md ops s).all (· == i))) && planT md ops t (s.setIfInBounds i true)
  | .two i j t u, s => (ops[i]?).isSome && (ops[j]?).isSome && (Region.ready md ops s).contains i && (Region.ready md ops s).all (fun k => k == i || k == j) && (t.len == u.len) &&
      planT md ops t (s.setIfInBounds i true) && planT md ops u (s.setIfInBounds j true)
def wpTO (P : Program) (ops : Array Oper) (Q : Exit → Act → World → Prop) (w0 : World) : TrO → Act → World → Prop
  | .nil, a, w => Q .normal a w
  | .one o b r, a, w => if Region.wanted o (yielded ops a.tmps) then
      (if b then o.quiet P a (fun w' => ∃ p : Regrown, w' = Go.Sort.grow (redrawn w0 p.d) p.os) (fun a' => wpTO P ops Q w0 r a' w) else o.wp P a w (fun a' w' => Ext w0 w' ∧ wpTO P ops Q w0 r a' w') Q)
    else wpTO P ops Q w0 r (a.put o.dst undef) w
  | .two o p r q, a, w => (if Region.wanted o (yielded ops a.tmps) then o.wp P a w (fun a' w' => Ext w0 w' ∧ wpTO P ops Q w0 r a' w') Q else wpTO P ops Q w0 r (a.put o.dst undef) w) ∧
      (if Region.wanted p (yielded ops a.tmps) then p.wp P a w (fun a' w' => Ext w0 w' ∧ wpTO P ops Q w0 q a' w') Q else wpTO P ops Q w0 q (a.put p.dst undef) w)
theorem wpTO_nil {w0 w : World} {a : Act} (h : Q .normal a w) : wpTO P ops Q w0 .nil a w := h
theorem wpTO_val {w0 w : World} {a : Act} {o : Oper} {r : TrO} (hw : Region.wanted o (yielded ops a.tmps) = true)
    (h : ∀ K : Act → Prop, (∀ a', wpTO P ops Q w0 r a' w → K a') → o.quiet P a (fun w' => ∃ p : Regrown, w' = Go.Sort.grow (redrawn w0 p.d) p.os) K) : wpTO P ops Q w0 (.one o true r) a w := by
  unfold wpTO; rw [if_pos hw, if_pos rfl]; exact h _ fun _ h => h
theorem wpTO_do {w0 w : World} {a : Act} {o : Oper} {r : TrO} (hw : Region.wanted o (yielded ops a.tmps) = true)
    (h : ∀ K : Act → World → Prop, (∀ a' w', Ext w0 w' → wpTO P ops Q w0 r a' w' → K a' w') → o.wp P a w K Q) : wpTO P ops Q w0 (.one o false r) a w := by
  unfold wpTO; rw [if_pos hw, if_neg (by decide)]; exact h _ fun _ _ h1 h2 => ⟨h1, h2⟩
theorem wpTO_two {w0 w : World} {a : Act} {o p : Oper} {r q : TrO} (h1 : wpTO P ops Q w0 (.one o false r) a w) (h2 : wpTO P ops Q w0 (.one p false q) a w) : wpTO P ops Q w0 (.two o p r q) a w := by
  unfold wpTO at *
  simp only [Bool.false_eq_true, if_false] at h1 h2
  exact ⟨h1, h2⟩
theorem getD_of {l : List Oper} {i : Nat} {o : Oper} (h : l.toArray[i]? = some o) : l.getD i default = o := by
  rw [List.getElem?_toArray] at h
  rw [List.getD_eq_getElem?_getD, h]; rfl
theorem pltr {w0 : World} {l : List Oper} (hsel : Region.noSelect l.toArray = true) (hQ : ∀ c a x v w, Q (.panic c) (Act.put a (some x) v) w → Q (.panic c) a w) :
    ∀ (t : Tr) (s : Array Bool) (a : Act) (w : World), planT md l.toArray t s = true → Ext w0 w →
      wpTO P l.toArray Q w0 (fillT l t) a w → wpAnyH P md l.toArray Q (Ext w0) t.len s a w := by
  have hsel' := Region.noSelect_spec hsel
  have hQ' : ∀ c a x v w, Q (.panic c) (Act.put a x v) w → Q (.panic c) a w := fun c a x v w h => by
    cases x with
    | none => exact h
    | some x => exact hQ c a x v w h
  intro t
  induction t with
  | nil => intro s a w hB _ H; exact ⟨by simpa [planT] using hB, H⟩
  | one i b r ih =>
    intro s a w hB he H
    unfold planT at hB
    cases hi : l.toArray[i]? with
    | none => rw [hi] at hB; simp at hB
    | some oi =>
      rw [hi] at hB
      simp only [Bool.and_eq_true] at hB
      obtain ⟨⟨hri, hc⟩, hrest⟩ := hB
      have hri' : i ∈ Region.ready md l.toArray s := by simpa using hri
      unfold fillT at H
      rw [getD_of hi] at H
      unfold wpTO at H
      cases b with
      | true =>
        simp only [if_true, Bool.and_eq_true] at hc H
        obtain ⟨hv, hf⟩ := hc
        have main : ∃ v, YieldsIf P l.toArray (Ext w0) oi v a ∧ wpTO P l.toArray Q w0 (fillT l r) (a.put oi.dst v) w := by
          by_cases hw : Region.wanted oi (yielded l.toArray a.tmps) = true
          · rw [if_pos hw] at H
            obtain ⟨u, hu, hG⟩ := H
            refine ⟨u, .inl ⟨hw, fun w1 he => ?_⟩, hG⟩
            have h1 := hu w1 (cl_of he)
            unfold Oper.quietAt at h1
            cases hr : (execOp a.eval oi).run P w1 with
            | halt x w2 => rw [hr] at h1; exact h1.elim
            | ok nx w2 =>
              obtain ⟨u', rfl⟩ := valOp_value hv hr
              rw [hr] at h1
              simp only [Oper.quietUpon] at h1
              rw [h1.1, h1.2]
          · rw [if_neg hw] at H
            exact ⟨undef, .inr ⟨by simpa using hw, rfl⟩, H⟩
        obtain ⟨v, hy, hG⟩ := main
        exact wpAnyH_first hi hsel' (fun c a w h => hQ' c a _ _ w h) _ _ _ _ (Region.free_spec hi hf) hri' hy he (ih _ _ w hrest he hG)
      | false =>
        simp only [if_false, Bool.false_eq_true] at hc H
        refine ⟨fun h0 => (by rw [h0] at hri'; cases hri'), fun j hj => ?_⟩
        have hji : j = i := by simpa using all_ready hc hj
        subst hji
        unfold wpOp
        simp only [hi]
        split
        · rename_i hw
          rw [if_pos hw] at H
          exact .inl (Oper.wp_mono (fun a' w' hx => ⟨hx.1, ih _ a' w' hrest hx.1 hx.2⟩) H)
        · rename_i hw
          rw [if_neg hw] at H
          exact ⟨he, ih _ _ w hrest he H⟩
  | two i j r q ih1 ih2 =>
    intro s a w hB he H
    simp only [planT, Bool.and_eq_true, beq_iff_eq] at hB
    obtain ⟨⟨⟨⟨⟨⟨hsi, hsj⟩, hri⟩, hall⟩, hlen⟩, hr1⟩, hr2⟩ := hB
    obtain ⟨oi, hi⟩ := Option.isSome_iff_exists.1 hsi
    obtain ⟨oj, hj⟩ := Option.isSome_iff_exists.1 hsj
    have hri' : i ∈ Region.ready md l.toArray s := by simpa using hri
    unfold fillT at H
    rw [getD_of hi, getD_of hj] at H
    unfold wpTO at H
    obtain ⟨H1, H2⟩ := H
    refine ⟨fun h0 => (by rw [h0] at hri'; cases hri'), fun k hk => ?_⟩
    have hk' := all_ready hall hk
    simp only [Bool.or_eq_true, beq_iff_eq] at hk'
    rcases hk' with rfl | rfl
    · unfold wpOp
      simp only [hi]
      split
      · rename_i hw
        rw [if_pos hw] at H1
        exact .inl (Oper.wp_mono (fun a' w' hx => ⟨hx.1, ih1 _ a' w' hr1 hx.1 hx.2⟩) H1)
      · rename_i hw
        rw [if_neg hw] at H1
        exact ⟨he, ih1 _ _ w hr1 he H1⟩
    · unfold wpOp
      simp only [hj]
      split
      · rename_i hw
        rw [if_pos hw] at H2
        exact .inl (Oper.wp_mono (fun a' w' hx => ⟨hx.1, hlen ▸ ih2 _ a' w' hr2 hx.1 hx.2⟩) H2)
      · rename_i hw
        rw [if_neg hw] at H2
        exact ⟨he, hlen ▸ ih2 _ _ w hr2 he H2⟩
theorem wp_region_tree {id : Nat} {a : Act} {w : World} {l : List Oper} (t : Tr)
    (hm : P.follows .mixedOrders = true) (hsel : Region.noSelect l.toArray = true)
    (hQ : ∀ c a x v w, Q (.panic c) (Act.put a (some x) v) w → Q (.panic c) a w)
    (hB : planT .any l.toArray t (Array.replicate l.toArray.size false) = true) (hn : l.length = t.len)
    (h : wpTO P l.toArray Q w (fillT l t) a w.drew) : (Code.region id l.toArray true).wp P Q a w := by
  have := pltr (P := P) (md := .any) (Q := Q) (w0 := w) hsel hQ t _ a w.drew hB (ext_refl w).draw h
  refine wp_region_held (S := Ext w) hm ?_
  have e : l.toArray.size = t.len := by simpa using hn
  rw [e]
  rw [e] at this
  exact this
end
end Hy
end
section
namespace Hy
open Go Go.RowKit
section
variable {P : Program} {ops : Array Oper} {md : Region.Mode} {Q : Exit → Act → World → Prop} {S : World → Prop} {late : Nat → Bool}
def reachB (md : Region.Mode) (ops : Array Oper) (i : Nat) : Nat → Nat → Bool
  | 0, _ => false
  | f + 1, t => match ops[t]? with
    | some o => o.after.any fun e => Region.binds md e && (e.on == i || reachB md ops i f e.on)
    | none => false
def Closed (md : Region.Mode) (ops : Array Oper) (s : Array Bool) : Prop := ∀ (j : Nat) oj, ops[j]? = some oj → s.getD j false = true → ∀ e ∈ oj.after, Region.binds md e = true → s.getD e.on false = true
theorem set_mono {s : Array Bool} {i k : Nat} (h : s.getD k false = true) : (s.setIfInBounds i true).getD k false = true := by
  simp only [Array.getD_eq_getD_getElem?, Array.getElem?_setIfInBounds] at h ⊢
  split
  · split
    · rfl
    · rename_i h1 h2; subst h1; rw [Array.getElem?_eq_none (by omega)] at h; exact h
  · exact h
theorem set_back {s : Array Bool} {i k : Nat} (h : (s.setIfInBounds i true).getD k false = true) : k = i ∨ s.getD k false = true := by
  by_cases e : i = k
  · exact .inl e.symm
  · right
    simpa only [Array.getD_eq_getD_getElem?, Array.getElem?_setIfInBounds, if_neg e] using h
theorem closed_new (n : Nat) : Closed md ops (Array.replicate n false) := fun j oj _ h => by
  simp only [Array.getD_eq_getD_getElem?, Array.getElem?_replicate] at h
  split at h <;> cases h
theorem Closed.set {s : Array Bool} (h : Closed md ops s) {i : Nat} (hi : i ∈ Region.ready md ops s) : Closed md ops (s.setIfInBounds i true) := fun j oj hj hs e he hb => by
  rcases set_back hs with rfl | h1
  · obtain ⟨_, oj', hoj', hall⟩ := mem_ready.1 hi
    cases hj.symm.trans hoj'
    exact set_mono (hall e he hb)
  · exact set_mono (h j oj hj h1 e he hb)
theorem reach_listed {s : Array Bool} (h : Closed md ops s) {i : Nat} : ∀ (f t : Nat), (∀ ot, ops[t]? = some ot → ∀ e ∈ ot.after, Region.binds md e = true → s.getD e.on false = true) → reachB md ops i f t = true → s.getD i false = true
  | 0, _, _, hr => by cases hr
  | f + 1, t, ht, hr => by
    unfold reachB at hr
    cases hot : ops[t]? with
    | none => rw [hot] at hr; cases hr
    | some ot =>
      rw [hot] at hr
      obtain ⟨e, he, h2⟩ := Array.any_eq_true'.1 hr
      simp only [Bool.and_eq_true, Bool.or_eq_true, beq_iff_eq] at h2
      obtain ⟨hb, h3⟩ := h2
      have h4 := ht ot hot e he hb
      rcases h3 with h3 | h3
      · rw [← h3]; exact h4
      · exact reach_listed h f e.on (fun oe hoe e2 he2 hb2 => h e.on oe hoe h4 e2 he2 hb2) h3
def lateB (md : Region.Mode) (ops : Array Oper) (ls : List Nat) (i : Nat) : Bool := ls.all fun t => reachB md ops i ops.size t
theorem not_late {ls : List Nat} {i j : Nat} {s : Array Bool} (h : Closed md ops s) (hl : lateB md ops ls i = true) (hi : i ∈ Region.ready md ops s) (hj : j ∈ Region.ready md ops s) : ls.contains j = false := by
  cases hc : ls.contains j with
  | false => rfl
  | true =>
    exfalso
    have hm : j ∈ ls := by simpa using hc
    have hr := List.all_eq_true.1 hl j hm
    obtain ⟨_, oj, hoj, hall⟩ := mem_ready.1 hj
    have h1 := reach_listed h ops.size j (fun ot hot e he hb => by cases hoj.symm.trans hot; exact hall e he hb) hr
    have h0 := (mem_ready.1 hi).1
    simp only [Array.getD_eq_getD_getElem?] at h0 h1
    cases hs : s[i]? with
    | none => rw [hs] at h1; cases h1
    | some b => rw [hs] at h0 h1; simp only [Option.getD_some] at h0 h1; rw [h0] at h1; cases h1
def wpAnyL (P : Program) (md : Region.Mode) (ops : Array Oper) (Q : Exit → Act → World → Prop) (S : World → Prop) (ls : List Nat) : Nat → Array Bool → Act → World → Prop
  | 0, s, a, w => Region.ready md ops s = [] ∧ Q .normal a w
  | n + 1, s, a, w => (Region.ready md ops s = [] → Q .normal a w) ∧
    ∀ i ∈ Region.ready md ops s, wpOp P ops Q i (fun a' w' => (ls.contains i = false → S w → S w') ∧ wpAnyL P md ops Q S ls n (s.setIfInBounds i true) a' w') a w
theorem wpAny_of_L {ls : List Nat} : ∀ (n : Nat) (s : Array Bool) (a : Act) (w : World), wpAnyL P md ops Q S ls n s a w → wpAny P md ops Q n s a w
  | 0, _, _, _, h => h
  | n + 1, _, _, _, h => ⟨h.1, fun i hi => wpOp_mono (fun a' w' h' => wpAny_of_L n _ a' w' h'.2) (h.2 i hi)⟩
theorem wpAnyL_first {ls : List Nat} {i : Nat} {oi : Oper} {v : Value} (hi : ops[i]? = some oi) (hsel : ∀ (j : Nat) (o : Oper) cs b, ops[j]? = some o → o.op ≠ .select cs b)
    (hQ : ∀ c a w, Q (.panic c) (a.put oi.dst v) w → Q (.panic c) a w) (hl : lateB md ops ls i = true) :
    ∀ (fuel : Nat) (s : Array Bool) (a : Act) (w : World), Closed md ops s →
      (∀ j oj, ops[j]? = some oj → j ≠ i → s.getD j true = false → (∀ e ∈ oj.after, Region.binds md e = true → e.on ≠ i) → oi.apart ops oj = true) →
      i ∈ Region.ready md ops s → YieldsIf P ops S oi v a → S w →
      wpAnyL P md ops Q S ls fuel (s.setIfInBounds i true) (a.put oi.dst v) w → wpAnyL P md ops Q S ls (fuel + 1) s a w := by
  intro fuel
  induction fuel with
  | zero =>
    intro s a w _ _ hr hy hS H
    refine ⟨fun h => (by rw [h] at hr; cases hr), fun j hj => ?_⟩
    by_cases hji : j = i
    · subst hji; exact hy.wpOp hi hS ⟨fun _ _ => hS, H⟩
    · have := ready_mono hj hji
      rw [H.1] at this
      cases this
  | succ fuel ih =>
    intro s a w hcl hfree hr hy hS H
    refine ⟨fun h => (by rw [h] at hr; cases hr), fun j hj => ?_⟩
    by_cases hji : j = i
    · subst hji; exact hy.wpOp hi hS ⟨fun _ _ => hS, H⟩
    · have h1 := H.2 j (ready_mono hj hji)
      have hjl := not_late hcl hl hr hj
      obtain ⟨hjun, oj, hoj, hall⟩ := mem_ready.1 hj
      have hnot : ∀ e ∈ oj.after, Region.binds md e = true → e.on ≠ i := fun e he hb heq => by
        have h1 := hall e he hb
        have h0 := (mem_ready.1 hr).1
        rw [heq] at h1
        rcases Nat.lt_or_ge i s.size with h' | h'
        · simp [h'] at h0 h1; rw [h0] at h1; cases h1
        · simp [Array.getElem?_eq_none h'] at h1
      have h2 := wpOp_putIf hoj (hfree j oj hoj hji hjun hnot) (fun cs b => hsel i oi cs b hi) (fun cs b => hsel j oj cs b hoj) hQ hy h1
      have hfree' : ∀ k ok, ops[k]? = some ok → k ≠ i → (s.setIfInBounds j true).getD k true = false →
          (∀ e ∈ ok.after, Region.binds md e = true → e.on ≠ i) → oi.apart ops ok = true := fun k ok hk hki hun hno => by
        refine hfree k ok hk hki ?_ hno
        by_cases hjk : j = k
        · subst hjk; exact hjun
        · rw [getD_set_ne true hjk] at hun; exact hun
      refine wpOp_mono (fun a' w' h3 => ⟨fun _ _ => h3.2.1 hjl hS, ih (s.setIfInBounds j true) a' w' (hcl.set hj) hfree' (ready_mono hr (Ne.symm hji)) h3.1 (h3.2.1 hjl hS) ?_⟩) h2
      rw [Array.setIfInBounds_comm _ _ hji]
      exact h3.2.2
theorem wpAnyL_pure {ls : List Nat} {i : Nat} {oi : Oper} {v : Value} (hi : ops[i]? = some oi) (hsel : ∀ (j : Nat) (o : Oper) cs b, ops[j]? = some o → o.op ≠ .select cs b)
    (hQ : ∀ c a w, Q (.panic c) (a.put oi.dst v) w → Q (.panic c) a w) :
    ∀ (fuel : Nat) (s : Array Bool) (a : Act) (w : World), 
      (∀ j oj, ops[j]? = some oj → j ≠ i → s.getD j true = false → (∀ e ∈ oj.after, Region.binds md e = true → e.on ≠ i) → oi.apart ops oj = true) →
      i ∈ Region.ready md ops s → YieldsIf P ops (fun _ => True) oi v a →
      wpAnyL P md ops Q S ls fuel (s.setIfInBounds i true) (a.put oi.dst v) w → wpAnyL P md ops Q S ls (fuel + 1) s a w := by
  intro fuel
  induction fuel with
  | zero =>
    intro s a w _ hr hy H
    refine ⟨fun h => (by rw [h] at hr; cases hr), fun j hj => ?_⟩
    by_cases hji : j = i
    · subst hji; exact hy.wpOp hi trivial ⟨fun _ h => h, H⟩
    · have := ready_mono hj hji
      rw [H.1] at this
      cases this
  | succ fuel ih =>
    intro s a w hfree hr hy H
    refine ⟨fun h => (by rw [h] at hr; cases hr), fun j hj => ?_⟩
    by_cases hji : j = i
    · subst hji; exact hy.wpOp hi trivial ⟨fun _ h => h, H⟩
    · have h1 := H.2 j (ready_mono hj hji)
      obtain ⟨hjun, oj, hoj, hall⟩ := mem_ready.1 hj
      have hnot : ∀ e ∈ oj.after, Region.binds md e = true → e.on ≠ i := fun e he hb heq => by
        have h1 := hall e he hb
        have h0 := (mem_ready.1 hr).1
        rw [heq] at h1
        rcases Nat.lt_or_ge i s.size with h' | h'
        · simp [h'] at h0 h1; rw [h0] at h1; cases h1
        · simp [Array.getElem?_eq_none h'] at h1
      have h2 := wpOp_putIf hoj (hfree j oj hoj hji hjun hnot) (fun cs b => hsel i oi cs b hi) (fun cs b => hsel j oj cs b hoj) hQ hy h1
      have hfree' : ∀ k ok, ops[k]? = some ok → k ≠ i → (s.setIfInBounds j true).getD k true = false →
          (∀ e ∈ ok.after, Region.binds md e = true → e.on ≠ i) → oi.apart ops ok = true := fun k ok hk hki hun hno => by
        refine hfree k ok hk hki ?_ hno
        by_cases hjk : j = k
        · subst hjk; exact hjun
        · rw [getD_set_ne true hjk] at hun; exact hun
      refine wpOp_mono (fun a' w' h3 => ⟨h3.2.1, ih (s.setIfInBounds j true) a' w' hfree' (ready_mono hr (Ne.symm hji)) h3.1 ?_⟩) h2
      rw [Array.setIfInBounds_comm _ _ hji]
      exact h3.2.2
def tailL (ls ps : List Nat) (x : Nat × Bool) : Bool := if x.2 then ps.contains x.1 else ls.contains x.1
def planL (md : Region.Mode) (ops : Array Oper) (ls ps : List Nat) : List (Nat × Bool) → Array Bool → Bool
  | [], s => (Region.ready md ops s).isEmpty
  | (i, b) :: r, s =>
    (match ops[i]? with
     | none => false
     | some oi => (Region.ready md ops s).contains i &&
        (if b then valOp oi.op && Region.free md ops s i && (ps.contains i || lateB md ops ls i && !ls.contains i) else (Region.ready md ops s).all (· == i) && (!ls.contains i || r.all (tailL ls ps)))) && planL md ops ls ps r (s.setIfInBounds i true)
def wpL (P : Program) (ops : Array Oper) (Q : Exit → Act → World → Prop) (w0 : World) : List (Oper × Bool × Bool × Bool) → Act → World → Prop
  | [], a, w => Q .normal a w
  | (o, b, l, p) :: r, a, w => if Region.wanted o (yielded ops a.tmps) then
      (if b then (if p then o.quiet P a (fun _ => True) (fun a' => wpL P ops Q w0 r a' w) else o.quiet P a (fun w' => ∃ p : Regrown, w' = Go.Sort.grow (redrawn w0 p.d) p.os) (fun a' => wpL P ops Q w0 r a' w)) else o.wp P a w (fun a' w' => (l = false → Ext w0 w') ∧ wpL P ops Q w0 r a' w') Q)
    else wpL P ops Q w0 r (a.put o.dst undef) w
theorem wpL_nil {w0 w : World} {a : Act} (h : Q .normal a w) : wpL P ops Q w0 [] a w := h
theorem wpL_val {w0 w : World} {a : Act} {o : Oper} {l : Bool} {r : List (Oper × Bool × Bool × Bool)} (hw : Region.wanted o (yielded ops a.tmps) = true)
    (h : ∀ K : Act → Prop, (∀ a', wpL P ops Q w0 r a' w → K a') → o.quiet P a (fun w' => ∃ p : Regrown, w' = Go.Sort.grow (redrawn w0 p.d) p.os) K) : wpL P ops Q w0 ((o, true, l, false) :: r) a w := by
  unfold wpL; rw [if_pos hw, if_pos rfl, if_neg (by decide)]; exact h _ fun _ h => h
theorem wpL_pure {w0 w : World} {a : Act} {o : Oper} {l : Bool} {r : List (Oper × Bool × Bool × Bool)} (hw : Region.wanted o (yielded ops a.tmps) = true)
    (h : ∀ K : Act → Prop, (∀ a', wpL P ops Q w0 r a' w → K a') → o.quiet P a (fun _ => True) K) : wpL P ops Q w0 ((o, true, l, true) :: r) a w := by
  unfold wpL; rw [if_pos hw, if_pos rfl, if_pos rfl]; exact h _ fun _ h => h
theorem wpL_do {w0 w : World} {a : Act} {o : Oper} {p : Bool} {r : List (Oper × Bool × Bool × Bool)} (hw : Region.wanted o (yielded ops a.tmps) = true)
    (h : ∀ K : Act → World → Prop, (∀ a' w', Ext w0 w' → wpL P ops Q w0 r a' w' → K a' w') → o.wp P a w K Q) : wpL P ops Q w0 ((o, false, false, p) :: r) a w := by
  unfold wpL; rw [if_pos hw, if_neg (by decide)]; exact h _ fun _ _ h1 h2 => ⟨fun _ => h1, h2⟩
theorem wpL_late {w0 w : World} {a : Act} {o : Oper} {p : Bool} {r : List (Oper × Bool × Bool × Bool)} (hw : Region.wanted o (yielded ops a.tmps) = true)
    (h : ∀ K : Act → World → Prop, (∀ a' w', wpL P ops Q w0 r a' w' → K a' w') → o.wp P a w K Q) : wpL P ops Q w0 ((o, false, true, p) :: r) a w := by
  unfold wpL; rw [if_pos hw, if_neg (by decide)]; exact h _ fun _ _ h2 => ⟨fun h => (by cases h), h2⟩
theorem pll {ls ps : List Nat} {w0 : World} (hsel : Region.noSelect ops = true) (hQ : ∀ c a x v w, Q (.panic c) (Act.put a (some x) v) w → Q (.panic c) a w) :
    ∀ (hs : List (Nat × Bool)) (s : Array Bool) (a : Act) (w : World), planL md ops ls ps hs s = true → Closed md ops s → (hs.all (tailL ls ps) = false → Ext w0 w) →
      wpL P ops Q w0 (hs.filterMap fun x => (ops[x.1]?).map fun o => (o, x.2, ls.contains x.1, ps.contains x.1)) a w → wpAnyL P md ops Q (Ext w0) ls hs.length s a w := by
  have hsel' := Region.noSelect_spec hsel
  have hQ' : ∀ c a x v w, Q (.panic c) (Act.put a x v) w → Q (.panic c) a w := fun c a x v w h => by
    cases x with
    | none => exact h
    | some x => exact hQ c a x v w h
  intro hs
  induction hs with
  | nil => intro s a w hB _ _ H; exact ⟨by simpa [planL] using hB, H⟩
  | cons x r ih =>
    obtain ⟨i, b⟩ := x
    intro s a w hB hcl he H
    unfold planL at hB
    cases hi : ops[i]? with
    | none => rw [hi] at hB; simp at hB
    | some oi =>
      rw [hi] at hB
      simp only [Bool.and_eq_true] at hB
      obtain ⟨⟨hri, hc⟩, hrest⟩ := hB
      have hri' : i ∈ Region.ready md ops s := by simpa using hri
      have hlist : ((i, b) :: r).filterMap (fun x => (ops[x.1]?).map fun o => (o, x.2, ls.contains x.1, ps.contains x.1)) = (oi, b, ls.contains i, ps.contains i) :: r.filterMap (fun x => (ops[x.1]?).map fun o => (o, x.2, ls.contains x.1, ps.contains x.1)) := by simp [hi]
      rw [hlist] at H
      unfold wpL at H
      cases b with
      | true =>
        simp only [if_true, Bool.and_eq_true, Bool.or_eq_true, Bool.not_eq_true'] at hc H
        obtain ⟨⟨hv, hf⟩, hwt⟩ := hc
        cases hp : ps.contains i with
        | true =>
          rw [hp] at H
          simp only [if_true] at H
          have main : ∃ v, YieldsIf P ops (fun _ => True) oi v a ∧ wpL P ops Q w0 (r.filterMap fun x => (ops[x.1]?).map fun o => (o, x.2, ls.contains x.1, ps.contains x.1)) (a.put oi.dst v) w := by
            by_cases hw : Region.wanted oi (yielded ops a.tmps) = true
            · rw [if_pos hw] at H
              obtain ⟨u, hu, hG⟩ := H
              refine ⟨u, .inl ⟨hw, fun w1 he => ?_⟩, hG⟩
              have h1 := hu w1 he
              unfold Oper.quietAt at h1
              cases hr : (execOp a.eval oi).run P w1 with
              | halt x w2 => rw [hr] at h1; exact h1.elim
              | ok nx w2 =>
                obtain ⟨u', rfl⟩ := valOp_value hv hr
                rw [hr] at h1
                simp only [Oper.quietUpon] at h1
                rw [h1.1, h1.2]
            · rw [if_neg hw] at H
              exact ⟨undef, .inr ⟨by simpa using hw, rfl⟩, H⟩
          obtain ⟨v, hy, hG⟩ := main
          exact wpAnyL_pure hi hsel' (fun c a w h => hQ' c a _ _ w h) _ _ _ _ (Region.free_spec hi hf) hri' hy (ih _ _ w hrest (hcl.set hri') (fun h => he (by rw [List.all_cons, h, Bool.and_false])) hG)
        | false =>
          rw [hp] at H hwt
          simp only [if_false, Bool.false_eq_true, false_or] at H hwt
          obtain ⟨hwt, hnl⟩ := hwt
          have he0 : Ext w0 w := he (by rw [List.all_cons]; unfold tailL; simp only [if_true, hp, Bool.false_and])
          have main : ∃ v, YieldsIf P ops (Ext w0) oi v a ∧ wpL P ops Q w0 (r.filterMap fun x => (ops[x.1]?).map fun o => (o, x.2, ls.contains x.1, ps.contains x.1)) (a.put oi.dst v) w := by
            by_cases hw : Region.wanted oi (yielded ops a.tmps) = true
            · rw [if_pos hw] at H
              obtain ⟨u, hu, hG⟩ := H
              refine ⟨u, .inl ⟨hw, fun w1 he => ?_⟩, hG⟩
              have h1 := hu w1 (cl_of he)
              unfold Oper.quietAt at h1
              cases hr : (execOp a.eval oi).run P w1 with
              | halt x w2 => rw [hr] at h1; exact h1.elim
              | ok nx w2 =>
                obtain ⟨u', rfl⟩ := valOp_value hv hr
                rw [hr] at h1
                simp only [Oper.quietUpon] at h1
                rw [h1.1, h1.2]
            · rw [if_neg hw] at H
              exact ⟨undef, .inr ⟨by simpa using hw, rfl⟩, H⟩
          obtain ⟨v, hy, hG⟩ := main
          exact wpAnyL_first hi hsel' (fun c a w h => hQ' c a _ _ w h) hwt _ _ _ _ hcl (Region.free_spec hi hf) hri' hy he0 (ih _ _ w hrest (hcl.set hri') (fun _ => he0) hG)
      | false =>
        simp only [if_false, Bool.false_eq_true, Bool.and_eq_true, Bool.or_eq_true, Bool.not_eq_true'] at hc H
        obtain ⟨hc, hlast⟩ := hc
        refine ⟨fun h0 => (by rw [h0] at hri'; cases hri'), fun j hj => ?_⟩
        have hji : j = i := by simpa using all_ready hc hj
        subst hji
        have hnext : ∀ w', (ls.contains j = false → Ext w0 w') → r.all (tailL ls ps) = false → Ext w0 w' := fun w' h1 h2 => by
          rcases hlast with h | h
          · exact h1 h
          · rw [h2] at h; cases h
        unfold wpOp
        simp only [hi]
        split
        · rename_i hw
          rw [if_pos hw] at H
          exact .inl (Oper.wp_mono (fun a' w' hx => ⟨fun h _ => hx.1 h, ih _ a' w' hrest (hcl.set hri') (hnext w' hx.1) hx.2⟩) H)
        · rename_i hw
          rw [if_neg hw] at H
          have h1 : ls.contains j = false → Ext w0 w := fun h => he (by rw [List.all_cons]; unfold tailL; simp only [h, if_false, Bool.false_eq_true, Bool.false_and])
          exact ⟨fun _ h => h, ih _ _ w hrest (hcl.set hri') (hnext w h1) H⟩
theorem wp_region_late {id : Nat} {a : Act} {w : World} {L : List Oper} (ls ps : List Nat) (hs : List (Nat × Bool))
    (hm : P.follows .mixedOrders = true) (hsel : Region.noSelect L.toArray = true)
    (hQ : ∀ c a x v w, Q (.panic c) (Act.put a (some x) v) w → Q (.panic c) a w)
    (hB : planL .any L.toArray ls ps hs (Array.replicate L.toArray.size false) = true) (hn : L.length = hs.length)
    (h : wpL P L.toArray Q w (hs.filterMap fun x => (L.toArray[x.1]?).map fun o => (o, x.2, ls.contains x.1, ps.contains x.1)) a w.drew) : (Code.region id L.toArray true).wp P Q a w := by
  have := pll (P := P) (ops := L.toArray) (md := .any) (Q := Q) (w0 := w) (ls := ls) (ps := ps) hsel hQ hs _ a w.drew hB (closed_new _) (fun _ => (ext_refl w).draw) h
  refine wp_region_any hm (wpAny_of_L (S := Ext w) (ls := ls) _ _ _ _ ?_)
  have e : L.toArray.size = hs.length := by simpa using hn
  rw [e]
  rw [e] at this
  exact this
end
end Hy
end
section
section
namespace Hy
open Go Go.RowKit
section
variable {P : Program} {ops : Array Oper} {md : Region.Mode} {Q : Exit → Act → World → Prop} {S T : World → Prop} {late : Nat → Bool}
def wpAnyU (P : Program) (md : Region.Mode) (ops : Array Oper) (Q : Exit → Act → World → Prop) (S T : World → Prop) (ls : List Nat) : Nat → Array Bool → Act → World → Prop
  | 0, s, a, w => Region.ready md ops s = [] ∧ Q .normal a w
  | n + 1, s, a, w => (Region.ready md ops s = [] → Q .normal a w) ∧
    ∀ i ∈ Region.ready md ops s, wpOp P ops Q i (fun a' w' => ((ls.contains i = false → S w → S w') ∧ (T w → T w')) ∧ wpAnyU P md ops Q S T ls n (s.setIfInBounds i true) a' w') a w
theorem wpAny_of_U {ls : List Nat} : ∀ (n : Nat) (s : Array Bool) (a : Act) (w : World), wpAnyU P md ops Q S T ls n s a w → wpAny P md ops Q n s a w
  | 0, _, _, _, h => h
  | n + 1, _, _, _, h => ⟨h.1, fun i hi => wpOp_mono (fun a' w' h' => wpAny_of_U n _ a' w' h'.2) (h.2 i hi)⟩
theorem wpAnyU_first {ls : List Nat} {i : Nat} {oi : Oper} {v : Value} (hi : ops[i]? = some oi) (hsel : ∀ (j : Nat) (o : Oper) cs b, ops[j]? = some o → o.op ≠ .select cs b)
    (hQ : ∀ c a w, Q (.panic c) (a.put oi.dst v) w → Q (.panic c) a w) (hl : lateB md ops ls i = true) :
    ∀ (fuel : Nat) (s : Array Bool) (a : Act) (w : World), Closed md ops s →
      (∀ j oj, ops[j]? = some oj → j ≠ i → s.getD j true = false → (∀ e ∈ oj.after, Region.binds md e = true → e.on ≠ i) → oi.apart ops oj = true) →
      i ∈ Region.ready md ops s → YieldsIf P ops S oi v a → S w →
      wpAnyU P md ops Q S T ls fuel (s.setIfInBounds i true) (a.put oi.dst v) w → wpAnyU P md ops Q S T ls (fuel + 1) s a w := by
  intro fuel
  induction fuel with
  | zero =>
    intro s a w _ _ hr hy hS H
    refine ⟨fun h => (by rw [h] at hr; cases hr), fun j hj => ?_⟩
    by_cases hji : j = i
    · subst hji; exact hy.wpOp hi hS ⟨⟨fun _ _ => hS, fun h => h⟩, H⟩
    · have := ready_mono hj hji
      rw [H.1] at this
      cases this
  | succ fuel ih =>
    intro s a w hcl hfree hr hy hS H
    refine ⟨fun h => (by rw [h] at hr; cases hr), fun j hj => ?_⟩
    by_cases hji : j = i
    · subst hji; exact hy.wpOp hi hS ⟨⟨fun _ _ => hS, fun h => h⟩, H⟩
    · have h1 := H.2 j (ready_mono hj hji)
      have hjl := not_late hcl hl hr hj
      obtain ⟨hjun, oj, hoj, hall⟩ := mem_ready.1 hj
      have hnot : ∀ e ∈ oj.after, Region.binds md e = true → e.on ≠ i := fun e he hb heq => by
        have h1 := hall e he hb
        have h0 := (mem_ready.1 hr).1
        rw [heq] at h1
        rcases Nat.lt_or_ge i s.size with h' | h'
        · simp [h'] at h0 h1; rw [h0] at h1; cases h1
        · simp [Array.getElem?_eq_none h'] at h1
      have h2 := wpOp_putIf hoj (hfree j oj hoj hji hjun hnot) (fun cs b => hsel i oi cs b hi) (fun cs b => hsel j oj cs b hoj) hQ hy h1
      have hfree' : ∀ k ok, ops[k]? = some ok → k ≠ i → (s.setIfInBounds j true).getD k true = false →
          (∀ e ∈ ok.after, Region.binds md e = true → e.on ≠ i) → oi.apart ops ok = true := fun k ok hk hki hun hno => by
        refine hfree k ok hk hki ?_ hno
        by_cases hjk : j = k
        · subst hjk; exact hjun
        · rw [getD_set_ne true hjk] at hun; exact hun
      refine wpOp_mono (fun a' w' h3 => ⟨⟨fun _ _ => h3.2.1.1 hjl hS, h3.2.1.2⟩, ih (s.setIfInBounds j true) a' w' (hcl.set hj) hfree' (ready_mono hr (Ne.symm hji)) h3.1 (h3.2.1.1 hjl hS) ?_⟩) h2
      rw [Array.setIfInBounds_comm _ _ hji]
      exact h3.2.2
end
end Hy
end
end
section
section
namespace Hy
open Go Go.RowKit
section
variable {P : Program} {ops : Array Oper} {md : Region.Mode} {Q : Exit → Act → World → Prop} {w0 : World} {ls : List Nat}
def dstOf (ops : Array Oper) (k : Nat) : Option Tmp := (ops[k]?).bind (·.dst)
def putF (ops : Array Oper) (f : Nat → Bool) (v : Nat → Value) : List Nat → Act → Act
  | [], a => a
  | k :: r, a => putF ops f v r (if f k = true then a.put (dstOf ops k) (v k) else a)
def putAll (ops : Array Oper) (v : Nat → Value) : List Nat → Act → Act
  | [], a => a
  | k :: r, a => putAll ops v r (a.put (dstOf ops k) (v k))
def updB (f : Nat → Bool) (i : Nat) : Nat → Bool := fun k => if k = i then true else f k
def updV (v : Nat → Value) (i : Nat) (u : Value) : Nat → Value := fun k => if k = i then u else v k
def valD (d : Option Tmp) (a : Act) : Value := match d with | some d => a.eval (.tmp d) | none => undef
theorem updB_at (f : Nat → Bool) (i : Nat) : updB f i i = true := if_pos rfl
theorem updB_ne {f : Nat → Bool} {i k : Nat} (h : k ≠ i) : updB f i k = f k := if_neg h
theorem updV_at (v : Nat → Value) (i : Nat) (u : Value) : updV v i u i = u := if_pos rfl
theorem updV_ne {v : Nat → Value} {i k : Nat} {u : Value} (h : k ≠ i) : updV v i u k = v k := if_neg h
def noP (Q : Exit → Act → World → Prop) : Exit → Act → World → Prop
  | .panic _, _, _ => False
  | e, a, w => Q e a w
theorem putAll_F (v : Nat → Value) : ∀ (L : List Nat) (a : Act), putAll ops v L a = putF ops (fun _ => true) v L a
  | [], _ => rfl
  | _ :: r, _ => putAll_F v r _
theorem put_size (a : Act) (d : Option Tmp) (u : Value) : (a.put d u).tmps.size = a.tmps.size := by
  cases d <;> simp [Act.put]
theorem put_defers (a : Act) (d : Option Tmp) (u : Value) : (a.put d u).defers = a.defers := by
  cases d <;> rfl
theorem putF_size (f : Nat → Bool) (v : Nat → Value) : ∀ (L : List Nat) (a : Act), (putF ops f v L a).tmps.size = a.tmps.size
  | [], _ => rfl
  | k :: r, a => by
    unfold putF
    rw [putF_size f v r]
    split
    · exact put_size _ _ _
    · rfl
theorem putF_defers (f : Nat → Bool) (v : Nat → Value) : ∀ (L : List Nat) (a : Act), (putF ops f v L a).defers = a.defers
  | [], _ => rfl
  | k :: r, a => by
    unfold putF
    rw [putF_defers f v r]
    split
    · exact put_defers _ _ _
    · rfl
theorem evalF_out {f : Nat → Bool} {v : Nat → Value} {x : Operand} : ∀ (L : List Nat) (a : Act), (∀ k ∈ L, f k = true → ∀ d, dstOf ops k = some d → x ≠ .tmp d) → (putF ops f v L a).eval x = a.eval x
  | [], _, _ => rfl
  | k :: r, a, h => by
    unfold putF
    rw [evalF_out r _ (fun j hj => h j (List.mem_cons_of_mem _ hj))]
    split
    · next hk => exact Act.eval_put fun d hd => h k (by simp) hk d hd
    · rfl
theorem eval_at (a : Act) (d : Tmp) (u : Value) (h : d < a.tmps.size) : (a.put (some d) u).eval (.tmp d) = u := by
  simp [Act.eval, Act.put, h]
theorem evalF_in {f : Nat → Bool} {v : Nat → Value} {k : Nat} {d : Tmp} (hf : f k = true) (hd : dstOf ops k = some d) : ∀ (L : List Nat) (a : Act), k ∈ L → d < a.tmps.size → (∀ j ∈ L, j ≠ k → dstOf ops j ≠ some d) → (putF ops f v L a).eval (.tmp d) = v k
  | [], _, hk, _, _ => by cases hk
  | j :: r, a, hk, hs, hj => by
    unfold putF
    have hr : ∀ i ∈ r, i ≠ k → dstOf ops i ≠ some d := fun i hi => hj i (List.mem_cons_of_mem _ hi)
    by_cases hkr : k ∈ r
    · refine evalF_in hf hd r _ hkr ?_ hr
      split
      · rw [put_size]; exact hs
      · exact hs
    · have e : k = j := by
        rcases List.mem_cons.1 hk with h | h
        · exact h
        · exact absurd h hkr
      subst e
      rw [if_pos hf, evalF_out r _ (fun i hi _ d' hd' e => by
        have : d = d' := by injection e
        subst this
        exact hr i hi (fun e2 => hkr (e2 ▸ hi)) hd'), hd]
      exact eval_at a d _ hs
theorem putF_put {f : Nat → Bool} {v : Nat → Value} {x : Option Tmp} {u : Value} : ∀ (L : List Nat) (a : Act), (∀ k ∈ L, ∀ d, x = some d → dstOf ops k ≠ some d) → putF ops f v L (a.put x u) = (putF ops f v L a).put x u
  | [], _, _ => rfl
  | k :: r, a, h => by
    unfold putF
    rw [← putF_put r _ (fun j hj => h j (List.mem_cons_of_mem _ hj))]
    split
    · rw [Act.put_comm a u (v k) (h k (by simp))]
    · rfl
theorem putF_congr {f g : Nat → Bool} {v v' : Nat → Value} : ∀ (L : List Nat) (a : Act), (∀ k ∈ L, f k = g k ∧ (f k = true → v k = v' k)) → putF ops f v L a = putF ops g v' L a
  | [], _, _ => rfl
  | k :: r, a, h => by
    unfold putF
    obtain ⟨h1, h2⟩ := h k (by simp)
    rw [← h1]
    by_cases hf : f k = true
    · rw [if_pos hf, if_pos hf, h2 hf]; exact putF_congr r _ (fun j hj => h j (List.mem_cons_of_mem _ hj))
    · rw [if_neg hf, if_neg hf]; exact putF_congr r _ (fun j hj => h j (List.mem_cons_of_mem _ hj))
theorem putF_set {f : Nat → Bool} {v : Nat → Value} {i : Nat} {u : Value} (hf : f i = false) : ∀ (L : List Nat) (a : Act), L.Nodup → i ∈ L → (∀ j ∈ L, j ≠ i → ∀ d, dstOf ops i = some d → dstOf ops j ≠ some d) →
    (putF ops f v L a).put (dstOf ops i) u = putF ops (updB f i) (updV v i u) L a
  | [], _, _, hi, _ => by cases hi
  | k :: r, a, hn, hi, hd => by
    obtain ⟨hkr, hnr⟩ := List.nodup_cons.1 hn
    unfold putF
    by_cases hki : k = i
    · subst hki
      rw [if_neg (by rw [hf]; decide), if_pos (updB_at f k), updV_at]
      rw [← putF_put r a (fun j hj d hdd => hd j (List.mem_cons_of_mem _ hj) (fun e => hkr (e ▸ hj)) d hdd)]
      refine putF_congr r _ fun j hj => ?_
      have hne : j ≠ k := fun e => hkr (e ▸ hj)
      exact ⟨(updB_ne hne).symm, fun _ => (updV_ne hne).symm⟩
    · have hir : i ∈ r := by
        rcases List.mem_cons.1 hi with h | h
        · exact absurd h.symm hki
        · exact h
      rw [putF_set hf r _ hnr hir (fun j hj => hd j (List.mem_cons_of_mem _ hj)), updB_ne hki, updV_ne hki]
theorem wp_moved {o : Oper} {a A : Act} {K K' : Act → World → Prop} {w : World} (he : execOp A.eval o = execOp a.eval o)
    (h : o.wp P A w (fun a' w' => a'.defers = A.defers ∧ K a' w') (noP Q)) (hK : ∀ u w', K (A.put o.dst u) w' → K' (a.put o.dst u) w') : o.wp P a w K' Q := by
  unfold Oper.wp at *
  rw [he] at h
  generalize (execOp a.eval o).run P w = r at *
  cases r with
  | ok n w' =>
    cases n
    case value u => exact hK _ _ h.2
    case skip => exact hK _ _ h.2
    case defer d =>
      exfalso
      have h1 := h.1
      rw [put_defers] at h1
      have := congrArg List.length h1
      simp at this
    case enter f args =>
      refine Calls.mono h fun e w2 he2 => ?_
      cases e with
      | returned u => exact hK _ _ he2.2
      | panicked c => exact he2.elim
      | outgrown => exact he2
    case row r args => exact Rows.mono h fun u w2 h2 => hK _ _ h2.2
    all_goals exact (show False from h).elim
  | halt x w' => cases x <;> first | exact h | exact h.elim
def stepI (P : Program) (ops : Array Oper) (Q : Exit → Act → World → Prop) (w0 : World) (ls : List Nat) (C : List (Nat × List Nat)) (Inv : (Nat → Bool) → (Nat → Value) → World → Prop) (aH : Act) (i : Nat) (ds : List Nat) (o : Oper) : Prop :=
  ∀ f v w, f i = false → (∀ k ∈ ds, f k = true) → (∀ x ∈ C, f x.1 = true → ∀ k ∈ x.2, f k = true) → Inv f v w → ∀ K : Act → World → Prop,
    (∀ a' w', a'.defers = aH.defers → (ls.contains i = false → Ext w0 w → Ext w0 w') → Inv (updB f i) (updV v i (valD o.dst a')) w' → K a' w') → o.wp P (putAll ops v ds aH) w K (noP Q)
def stepsI (P : Program) (ops : Array Oper) (Q : Exit → Act → World → Prop) (w0 : World) (ls : List Nat) (C : List (Nat × List Nat)) (Inv : (Nat → Bool) → (Nat → Value) → World → Prop) (aH : Act) : List (Nat × List Nat × Oper) → Prop
  | [] => True
  | (i, ds, o) :: r => stepI P ops Q w0 ls C Inv aH i ds o ∧ stepsI P ops Q w0 ls C Inv aH r
def calm : Op → Bool
  | .select .. => false
  | _ => true
def topoB (md : Region.Mode) (ops : Array Oper) (L : List Nat) : List Nat → List Nat → Bool
  | [], _ => true
  | i :: r, seen => (match ops[i]? with
      | none => false
      | some o => o.after.all fun e => !Region.binds md e || (decide (e.on < ops.size) && !L.contains e.on) || seen.contains e.on) && topoB md ops L r (i :: seen)
def checkI (md : Region.Mode) (ops : Array Oper) (D : List (Nat × List Nat)) : Bool :=
  (D.all fun x => match ops[x.1]? with
    | none => false
    | some o => o.guard.isNone && calm o.op && (x.2.all fun k => (D.map (·.1)).contains k && o.after.any fun e => Region.binds md e && e.on == k) &&
        ((D.map (·.1)).all fun k => x.2.contains k || (match dstOf ops k with | none => true | some d => !(o.looksAt ops).contains d))) &&
  ((D.map (·.1)).all fun i => (D.map (·.1)).all fun j => i == j || (match dstOf ops i with | none => true | some d => dstOf ops j != some d)) &&
  topoB md ops (D.map (·.1)) (D.map (·.1)) [] && decide (D.map (·.1)).Nodup
theorem steps_mem {C : List (Nat × List Nat)} {Inv : (Nat → Bool) → (Nat → Value) → World → Prop} {aH : Act} : ∀ (D : List (Nat × List Nat)), stepsI P ops Q w0 ls C Inv aH (D.filterMap fun x => (ops[x.1]?).map fun o => (x.1, x.2, o)) →
    ∀ x ∈ D, ∀ o, ops[x.1]? = some o → stepI P ops Q w0 ls C Inv aH x.1 x.2 o
  | [], _, x, hx, _, _ => by cases hx
  | y :: r, h, x, hx, o, ho => by
    cases hy : ops[y.1]? with
    | none =>
      have hl : (y :: r).filterMap (fun x => (ops[x.1]?).map fun o => (x.1, x.2, o)) = r.filterMap (fun x => (ops[x.1]?).map fun o => (x.1, x.2, o)) := by simp [hy]
      rw [hl] at h
      rcases List.mem_cons.1 hx with e | e
      · subst e; rw [hy] at ho; cases ho
      · exact steps_mem r h x e o ho
    | some oy =>
      have hl : (y :: r).filterMap (fun x => (ops[x.1]?).map fun o => (x.1, x.2, o)) = (y.1, y.2, oy) :: r.filterMap (fun x => (ops[x.1]?).map fun o => (x.1, x.2, o)) := by simp [hy]
      rw [hl] at h
      rcases List.mem_cons.1 hx with e | e
      · subst e; rw [hy] at ho; cases ho; exact h.1
      · exact steps_mem r h.2 x e o ho
theorem topo_ready {L : List Nat} {s : Array Bool} : ∀ (R seen : List Nat), topoB md ops L R seen = true → (∀ k ∈ seen, s.getD k false = true) → (∀ i, i < ops.size → i ∉ L → s.getD i false = true) → (∀ k ∈ L, k ∈ R ∨ k ∈ seen) →
    s.size = ops.size → (∃ i ∈ R, s.getD i false = false) → ∃ i, i ∈ Region.ready md ops s
  | [], _, _, _, _, _, _, ⟨i, hi, _⟩ => by cases hi
  | i :: r, seen, hB, hs, hn, hL, hz, hex => by
    unfold topoB at hB
    rw [Bool.and_eq_true] at hB
    obtain ⟨h1, h2⟩ := hB
    cases ho : ops[i]? with
    | none => rw [ho] at h1; cases h1
    | some o =>
      rw [ho] at h1
      have hlt : i < ops.size := by
        rcases Nat.lt_or_ge i ops.size with h | h
        · exact h
        · rw [Array.getElem?_eq_none h] at ho; cases ho
      cases hd : s.getD i false with
      | false =>
        refine ⟨i, mem_ready.2 ⟨?_, o, ho, fun e he hb => ?_⟩⟩
        · have hlt' : i < s.size := by omega
          simp only [Array.getD, hlt', dif_pos] at hd ⊢; exact hd
        · have h3 := (Array.all_eq_true'.1 h1) e he
          rw [hb] at h3
          simp only [Bool.not_true, Bool.false_or, Bool.or_eq_true, Bool.and_eq_true, Bool.not_eq_true', List.contains_eq_mem, decide_eq_false_iff_not, decide_eq_true_eq] at h3
          rcases h3 with h3 | h3
          · exact hn _ h3.1 h3.2
          · exact hs _ h3
      | true =>
        obtain ⟨j, hj, hjf⟩ := hex
        refine topo_ready r (i :: seen) h2 (fun k hk => ?_) hn (fun k hk => ?_) hz ⟨j, ?_, hjf⟩
        · rcases List.mem_cons.1 hk with e | e
          · subst e; exact hd
          · exact hs k e
        · rcases hL k hk with h | h
          · rcases List.mem_cons.1 h with e | e
            · right; subst e; simp
            · left; exact e
          · right; exact List.mem_cons_of_mem _ h
        · rcases List.mem_cons.1 hj with e | e
          · subst e; rw [hd] at hjf; cases hjf
          · exact e
def left (s : Array Bool) : List Nat → Nat
  | [] => 0
  | k :: r => (if s.getD k false = true then 0 else 1) + left s r
theorem left_zero {s : Array Bool} : ∀ (L : List Nat), left s L = 0 → ∀ k ∈ L, s.getD k false = true
  | [], _, _, hk => by cases hk
  | j :: r, h, k, hk => by
    unfold left at h
    rcases List.mem_cons.1 hk with e | e
    · subst e
      by_cases h1 : s.getD k false = true
      · exact h1
      · rw [if_neg h1] at h; omega
    · exact left_zero r (by omega) k e
theorem left_le {s : Array Bool} {i : Nat} : ∀ (L : List Nat), left (s.setIfInBounds i true) L ≤ left s L
  | [] => Nat.le_refl _
  | k :: r => by
    unfold left
    have := left_le (s := s) (i := i) r
    by_cases h1 : s.getD k false = true
    · rw [if_pos h1, if_pos (set_mono h1)]; omega
    · rw [if_neg h1]; split <;> omega
theorem set_at {s : Array Bool} {i : Nat} (h : i < s.size) : (s.setIfInBounds i true).getD i false = true := by simp [h]
theorem left_set {s : Array Bool} {i : Nat} (hi : s.getD i false = false) (hz : i < s.size) : ∀ (L : List Nat), i ∈ L → left (s.setIfInBounds i true) L < left s L
  | [], h => by cases h
  | k :: r, h => by
    unfold left
    by_cases hk : k = i
    · subst hk
      have := left_le (s := s) (i := k) r
      rw [if_pos (set_at hz), if_neg (by rw [hi]; decide)]; omega
    · have hir : i ∈ r := by
        rcases List.mem_cons.1 h with e | e
        · exact absurd e.symm hk
        · exact e
      have := left_set hi hz r hir
      by_cases h1 : s.getD k false = true
      · rw [if_pos h1, if_pos (set_mono h1)]; omega
      · rw [if_neg h1]; split <;> omega
theorem inv_any {D : List (Nat × List Nat)} {aH : Act} {Inv : (Nat → Bool) → (Nat → Value) → World → Prop} (hsel : Region.noSelect ops = true) (hC : checkI md ops D = true)
    (hsz : ∀ k ∈ D.map (·.1), ∀ d, dstOf ops k = some d → d < aH.tmps.size)
    (hst : stepsI P ops Q w0 ls D Inv aH (D.filterMap fun x => (ops[x.1]?).map fun o => (x.1, x.2, o)))
    (hend : ∀ f v w, (∀ k ∈ D.map (·.1), f k = true) → Inv f v w → Q .normal (putAll ops v (D.map (·.1)) aH) w) :
    ∀ (n : Nat) (s : Array Bool) (f : Nat → Bool) (v : Nat → Value) (w : World), s.size = ops.size → left s (D.map (·.1)) ≤ n → (∀ i, i < ops.size → i ∉ D.map (·.1) → s.getD i false = true) →
      (∀ k ∈ D.map (·.1), f k = s.getD k false) → (∀ x ∈ D, f x.1 = true → ∀ k ∈ x.2, f k = true) → Inv f v w → wpAnyU P md ops Q (Ext w0) (fun _ => True) ls n s (putF ops f v (D.map (·.1)) aH) w := by
  have hsel' := Region.noSelect_spec hsel
  unfold checkI at hC
  simp only [Bool.and_eq_true, List.all_eq_true, decide_eq_true_eq] at hC
  obtain ⟨⟨⟨hC1, hC2⟩, hC3⟩, hC4⟩ := hC
  have hdis : ∀ i ∈ D.map (·.1), ∀ j ∈ D.map (·.1), j ≠ i → ∀ d, dstOf ops i = some d → dstOf ops j ≠ some d := fun i hi j hj hne d hd => by
    have := hC2 i hi j hj
    rw [hd] at this
    simp only [Bool.or_eq_true, beq_iff_eq, bne_iff_ne] at this
    rcases this with e | e
    · exact absurd e.symm hne
    · exact e
  have done : ∀ (s : Array Bool) (f : Nat → Bool) (v : Nat → Value) (w : World), left s (D.map (·.1)) = 0 → (∀ k ∈ D.map (·.1), f k = s.getD k false) → Inv f v w → Q .normal (putF ops f v (D.map (·.1)) aH) w := fun s f v w h0 hf hI => by
    have h1 : ∀ k ∈ D.map (·.1), f k = true := fun k hk => (hf k hk).trans (left_zero _ h0 k hk)
    have h2 := hend f v w h1 hI
    rw [putAll_F] at h2
    rw [putF_congr (g := fun _ => true) (v' := v) _ _ (fun k hk => ⟨h1 k hk, fun _ => rfl⟩)]
    exact h2
  have mem : ∀ (s : Array Bool) (j : Nat), s.size = ops.size → (∀ i, i < ops.size → i ∉ D.map (·.1) → s.getD i false = true) → j ∈ Region.ready md ops s → j ∈ D.map (·.1) ∧ s.getD j false = false ∧ j < s.size := fun s j hz hn hj => by
    obtain ⟨h1, o, ho, _⟩ := mem_ready.1 hj
    have hlt : j < ops.size := by
      rcases Nat.lt_or_ge j ops.size with h | h
      · exact h
      · rw [Array.getElem?_eq_none h] at ho; cases ho
    have hlt' : j < s.size := by omega
    have h2 : s.getD j false = false := by
      simp only [Array.getD, hlt', dif_pos] at h1 ⊢; exact h1
    refine ⟨Classical.byContradiction fun hm => ?_, h2, hlt'⟩
    rw [hn j hlt hm] at h2; cases h2
  intro n
  induction n with
  | zero =>
    intro s f v w hz hl hn hf hcl hI
    have h0 : left s (D.map (·.1)) = 0 := by omega
    refine ⟨List.eq_nil_iff_forall_not_mem.2 fun j hj => ?_, done s f v w h0 hf hI⟩
    obtain ⟨h1, h2, _⟩ := mem s j hz hn hj
    rw [left_zero _ h0 j h1] at h2; cases h2
  | succ n ih =>
    intro s f v w hz hl hn hf hcl hI
    refine ⟨fun hr => ?_, fun i hi => ?_⟩
    · by_cases h0 : left s (D.map (·.1)) = 0
      · exact done s f v w h0 hf hI
      · exfalso
        have hex : ∃ i ∈ D.map (·.1), s.getD i false = false := Classical.byContradiction fun hne => h0 (by
          have : ∀ (L : List Nat), (∀ k ∈ L, s.getD k false = true) → left s L = 0 := fun L => by
            induction L with
            | nil => intro _; rfl
            | cons k r ih2 =>
              intro h
              unfold left
              rw [if_pos (h k (by simp)), ih2 (fun j hj => h j (List.mem_cons_of_mem _ hj))]
          refine this _ fun k hk => ?_
          cases hd : s.getD k false with
          | true => rfl
          | false => exact absurd ⟨k, hk, hd⟩ hne)
        obtain ⟨j, hj⟩ := topo_ready (D.map (·.1)) [] hC3 (fun k hk => by cases hk) hn (fun k hk => .inl hk) hz hex
        rw [hr] at hj; cases hj
    · obtain ⟨him, hif, hilt⟩ := mem s i hz hn hi
      obtain ⟨_, o, ho, hdeps⟩ := mem_ready.1 hi
      obtain ⟨x, hx, hxi⟩ := List.mem_map.1 him
      have hc := hC1 x hx
      rw [hxi, ho] at hc
      simp only [Bool.and_eq_true, List.all_eq_true] at hc
      obtain ⟨⟨⟨hg, hcalm⟩, hds⟩, hlook⟩ := hc
      have hg' : o.guard = none := by cases hgo : o.guard with
        | none => rfl
        | some g => rw [hgo] at hg; cases hg
      have hwt : Region.wanted o (yielded ops (putF ops f v (D.map (·.1)) aH).tmps) = true := by unfold Region.wanted; rw [hg']
      have hfi : f i = false := (hf i him).trans hif
      have hfd : ∀ k ∈ x.2, f k = true := fun k hk => by
        obtain ⟨h1, h2⟩ := hds k hk
        have h1 : k ∈ D.map (·.1) := by simpa using h1
        obtain ⟨e, he, h3⟩ := Array.any_eq_true'.1 h2
        simp only [Bool.and_eq_true, beq_iff_eq] at h3
        rw [hf k h1, ← h3.2]
        exact hdeps e he h3.1
      have hstep := steps_mem D hst x hx o (by rw [hxi]; exact ho)
      rw [hxi] at hstep
      have hw := hstep f v w hfi hfd hcl hI (fun a' w' => a'.defers = (putAll ops v x.2 aH).defers ∧ ((ls.contains i = false → Ext w0 w → Ext w0 w') ∧ Inv (updB f i) (updV v i (valD o.dst a')) w')) (fun a' w' h1 h2 h3 => ⟨by rw [putAll_F, putF_defers]; exact h1, h2, h3⟩)
      have hev : execOp (putAll ops v x.2 aH).eval o = execOp (putF ops f v (D.map (·.1)) aH).eval o := by
        refine execOp_congr o (fun cs b => hsel' i o cs b ho) fun y hy => ?_
        have hout : ∀ k ∈ D.map (·.1), k ∉ x.2 → ∀ d, dstOf ops k = some d → y ≠ .tmp d := fun k hk hk2 d hd e => by
          have := hlook k hk
          rw [hd] at this
          simp only [Bool.or_eq_true, List.contains_eq_mem, decide_eq_true_eq, Bool.not_eq_true', decide_eq_false_iff_not] at this
          rcases this with h | h
          · exact hk2 h
          · subst e
            exact h (List.mem_append_left _ (List.mem_filterMap.2 ⟨.tmp d, by simpa using hy, rfl⟩))
        rw [putAll_F]
        by_cases hq : ∃ k ∈ x.2, ∃ d, dstOf ops k = some d ∧ y = .tmp d
        · obtain ⟨k, hk, d, hd, rfl⟩ := hq
          have hkm : k ∈ D.map (·.1) := by simpa using (hds k hk).1
          rw [evalF_in rfl hd x.2 aH hk (hsz k hkm d hd) (fun j hj hne => hdis k hkm j (by simpa using (hds j hj).1) hne d hd)]
          rw [evalF_in (hfd k hk) hd (D.map (·.1)) aH hkm (hsz k hkm d hd) (fun j hj hne => hdis k hkm j hj hne d hd)]
        · rw [evalF_out x.2 aH (fun k hk _ d hd e => hq ⟨k, hk, d, hd, e⟩)]
          rw [evalF_out (D.map (·.1)) aH (fun k hk _ d hd e => by
            by_cases hk2 : k ∈ x.2
            · exact hq ⟨k, hk2, d, hd, e⟩
            · exact hout k hk hk2 d hd e)]
      unfold wpOp
      simp only [ho, hwt, if_true]
      refine .inl (wp_moved hev hw fun u w' hh => ?_)
      obtain ⟨hE', hI'⟩ := hh
      refine ⟨⟨hE', fun _ => trivial⟩, ?_⟩
      have hset : (putF ops f v (D.map (·.1)) aH).put o.dst u = putF ops (updB f i) (updV v i (valD o.dst ((putAll ops v x.2 aH).put o.dst u))) (D.map (·.1)) aH := by
        have hdo : dstOf ops i = o.dst := by unfold dstOf; rw [ho]; rfl
        have h1 := putF_set (v := v) (u := valD o.dst ((putAll ops v x.2 aH).put o.dst u)) hfi (D.map (·.1)) aH hC4 him (fun j hj hne d hd => hdis i him j hj hne d hd)
        rw [← h1, hdo]
        cases hod : o.dst with
        | none => rfl
        | some d =>
          congr 1
          simp only [valD]
          rw [eval_at _ _ _ (by rw [putAll_F, putF_size]; exact hsz i him d (hdo.trans hod))]
      rw [hset]
      refine ih (s.setIfInBounds i true) _ _ w' (by simp [hz]) ?_ ?_ ?_ ?_ hI'
      · have := left_set hif hilt (D.map (·.1)) him
        omega
      · exact fun j hj hjm => set_mono (hn j hj hjm)
      · intro k hk
        by_cases hki : k = i
        · subst hki; rw [updB_at, set_at hilt]
        · rw [updB_ne hki, hf k hk]
          simp only [Array.getD_eq_getD_getElem?, Array.getElem?_setIfInBounds_ne (Ne.symm hki)]
      · intro y hy hyf k hk
        by_cases hyi : y.1 = i
        · by_cases hki : k = i
          · subst hki; exact updB_at _ _
          · rw [updB_ne hki]
            have hdsy := (List.all_eq_true.1 (by
              have hc := hC1 y hy
              rw [hyi, ho] at hc
              simp only [Bool.and_eq_true] at hc
              exact hc.1.2)) k hk
            rw [Bool.and_eq_true] at hdsy
            obtain ⟨e, he, h3⟩ := Array.any_eq_true'.1 hdsy.2
            simp only [Bool.and_eq_true, beq_iff_eq] at h3
            have hkm : k ∈ D.map (·.1) := by simpa using hdsy.1
            rw [hf k hkm, ← h3.2]
            exact hdeps e he h3.1
        · rw [updB_ne hyi] at hyf
          have := hcl y hy hyf k hk
          by_cases hki : k = i
          · subst hki; exact updB_at _ _
          · rw [updB_ne hki]; exact this
def planQ (md : Region.Mode) (ops : Array Oper) (ls : List Nat) (D : List (Nat × List Nat)) : List Nat → Array Bool → Bool
  | [], s => (s.size == ops.size) && (List.range ops.size).all fun k => s.getD k false == !(D.map (·.1)).contains k
  | i :: r, s => (match ops[i]? with
      | none => false
      | some oi => (Region.ready md ops s).contains i && valOp oi.op && Region.free md ops s i && lateB md ops ls i) && planQ md ops ls D r (s.setIfInBounds i true)
def wpQ (P : Program) (ops : Array Oper) (w0 : World) (R : Act → Prop) : List Oper → Act → Prop
  | [], a => R a
  | o :: r, a => if Region.wanted o (yielded ops a.tmps) then o.quiet P a (fun w' => ∃ p : Regrown, w' = Go.Sort.grow (redrawn w0 p.d) p.os) (wpQ P ops w0 R r) else wpQ P ops w0 R r (a.put o.dst undef)
theorem wpQ_nil {R : Act → Prop} {a : Act} (h : R a) : wpQ P ops w0 R [] a := h
theorem wpQ_val {R : Act → Prop} {a : Act} {o : Oper} {r : List Oper} (hw : Region.wanted o (yielded ops a.tmps) = true)
    (h : ∀ K : Act → Prop, (∀ a, wpQ P ops w0 R r a → K a) → o.quiet P a (fun w' => ∃ p : Regrown, w' = Go.Sort.grow (redrawn w0 p.d) p.os) K) : wpQ P ops w0 R (o :: r) a := by
  unfold wpQ; rw [if_pos hw]; exact h _ fun _ h => h
theorem plq {D : List (Nat × List Nat)} {R : Act → Prop} {w : World} (hsel : Region.noSelect ops = true) (hQ : ∀ c a x v w, Q (.panic c) (Act.put a (some x) v) w → Q (.panic c) a w) (he : Ext w0 w) (n : Nat)
    (hR : ∀ s a, planQ md ops ls D [] s = true → R a → wpAnyU P md ops Q (Ext w0) (fun _ => True) ls n s a w) :
    ∀ (hs : List Nat) (s : Array Bool) (a : Act), planQ md ops ls D hs s = true → Closed md ops s → wpQ P ops w0 R (hs.filterMap fun i => ops[i]?) a → wpAnyU P md ops Q (Ext w0) (fun _ => True) ls (n + hs.length) s a w := by
  have hsel' := Region.noSelect_spec hsel
  have hQ' : ∀ c a x v w, Q (.panic c) (Act.put a x v) w → Q (.panic c) a w := fun c a x v w h => by
    cases x with
    | none => exact h
    | some x => exact hQ c a x v w h
  intro hs
  induction hs with
  | nil => intro s a hB _ H; exact hR s a hB H
  | cons i r ih =>
    intro s a hB hcl H
    unfold planQ at hB
    cases hi : ops[i]? with
    | none => rw [hi] at hB; simp at hB
    | some oi =>
      rw [hi] at hB
      simp only [Bool.and_eq_true] at hB
      obtain ⟨⟨⟨⟨hri, hv⟩, hf⟩, hlt⟩, hrest⟩ := hB
      have hri' : i ∈ Region.ready md ops s := by simpa using hri
      have hlist : (i :: r).filterMap (fun i => ops[i]?) = oi :: r.filterMap (fun i => ops[i]?) := by simp [hi]
      rw [hlist] at H
      unfold wpQ at H
      have main : ∃ v, YieldsIf P ops (Ext w0) oi v a ∧ wpQ P ops w0 R (r.filterMap fun i => ops[i]?) (a.put oi.dst v) := by
        by_cases hw : Region.wanted oi (yielded ops a.tmps) = true
        · rw [if_pos hw] at H
          obtain ⟨u, hu, hG⟩ := H
          refine ⟨u, .inl ⟨hw, fun w1 he => ?_⟩, hG⟩
          have h1 := hu w1 (cl_of he)
          unfold Oper.quietAt at h1
          cases hr : (execOp a.eval oi).run P w1 with
          | halt x w2 => rw [hr] at h1; exact h1.elim
          | ok nx w2 =>
            obtain ⟨u', rfl⟩ := valOp_value hv hr
            rw [hr] at h1
            simp only [Oper.quietUpon] at h1
            rw [h1.1, h1.2]
        · rw [if_neg hw] at H
          exact ⟨undef, .inr ⟨by simpa using hw, rfl⟩, H⟩
      obtain ⟨v, hy, hG⟩ := main
      exact wpAnyU_first hi hsel' (fun c a w h => hQ' c a _ _ w h) hlt _ _ _ _ hcl (Region.free_spec hi hf) hri' hy he (ih _ _ hrest (hcl.set hri') hG)
theorem wp_region_inv {id : Nat} {a : Act} {w : World} {l : List Oper} (ls hs : List Nat) (D : List (Nat × List Nat))
    (hm : P.follows .mixedOrders = true) (hsel : Region.noSelect l.toArray = true)
    (hQ : ∀ c a x v w, Q (.panic c) (Act.put a (some x) v) w → Q (.panic c) a w)
    (hB : planQ .any l.toArray ls D hs (Array.replicate l.toArray.size false) = true) (hC : checkI .any l.toArray D = true) (hn : l.length = D.length + hs.length)
    (h : wpQ P l.toArray w (fun aH => ∃ Inv : (Nat → Bool) → (Nat → Value) → World → Prop,
      ((D.map (·.1)).all fun k => match dstOf l.toArray k with | none => true | some d => decide (d < aH.tmps.size)) = true ∧
      Inv (fun _ => false) (fun _ => undef) w.drew ∧
      stepsI P l.toArray Q w ls D Inv aH (D.filterMap fun x => (l.toArray[x.1]?).map fun o => (x.1, x.2, o)) ∧
      ∀ f v w', (∀ k ∈ D.map (·.1), f k = true) → Inv f v w' → Q .normal (putAll l.toArray v (D.map (·.1)) aH) w') (hs.filterMap fun i => l.toArray[i]?) a) :
    (Code.region id l.toArray true).wp P Q a w := by
  have := plq (P := P) (ops := l.toArray) (md := .any) (Q := Q) (w0 := w) (ls := ls) (D := D) (w := w.drew) hsel hQ (ext_refl w).draw D.length (fun s aH hp hR => ?_) hs _ a hB (closed_new _) h
  · refine wp_region_any hm (wpAny_of_U (S := Ext w) (T := fun _ => True) (ls := ls) _ _ _ _ ?_)
    have e : l.toArray.size = D.length + hs.length := by simpa using hn
    rw [e]
    rw [e] at this
    exact this
  · obtain ⟨Inv, hz, hI, hst, hend⟩ := hR
    unfold planQ at hp
    simp only [Bool.and_eq_true, beq_iff_eq, List.all_eq_true, List.mem_range] at hp
    obtain ⟨hp1, hp2⟩ := hp
    have hall : ∀ i, i < l.toArray.size → i ∉ D.map (·.1) → s.getD i false = true := fun i hi hm => by
      rw [hp2 i hi]; simpa using hm
    have hnot : ∀ k ∈ D.map (·.1), s.getD k false = false := fun k hk => by
      by_cases hlt : k < l.toArray.size
      · rw [hp2 k hlt]; simpa using hk
      · simp only [Array.getD_eq_getD_getElem?]
        rw [Array.getElem?_eq_none (by omega)]; rfl
    have hlen : ∀ (L : List Nat), left s L ≤ L.length := fun L => by
      induction L with
      | nil => exact Nat.le_refl _
      | cons k r ih => unfold left; simp only [List.length_cons]; split <;> omega
    have e : putF l.toArray (fun _ => false) (fun _ => undef) (D.map (·.1)) aH = aH := by
      have : ∀ (L : List Nat) (a : Act), putF l.toArray (fun _ => false) (fun _ => undef) L a = a := fun L => by
        induction L with
        | nil => intro a; rfl
        | cons k r ih => intro a; unfold putF; rw [if_neg (by decide)]; exact ih a
      exact this _ _
    have h2 := inv_any (P := P) (ops := l.toArray) (md := .any) (Q := Q) (w0 := w) (ls := ls) (D := D) (aH := aH) (Inv := Inv) hsel hC (fun k hk d hd => by
      have := (List.all_eq_true.1 hz) k hk
      rw [hd] at this
      simpa using this) hst hend D.length s (fun _ => false) (fun _ => undef) w.drew hp1 (by have := hlen (D.map (·.1)); rw [List.length_map] at this; exact this) hall (fun k hk => (hnot k hk).symm) (fun _ _ h => by cases h) hI
    rw [e] at h2
    exact h2
end
end Hy
end
end
end
