/- Texts of this claim, put together: walks and plain laws. -/
import Derived.Test.YtdmmodeplfmpnaaGreatZG1
import Derived.OrdersHeld
section
section
namespace Hy
open Go Go.RowKit
def valOp : Op → Bool
  | .move _ | .assign _ | .pick .. | .build .. | .load .. | .binOp .. | .unOp .. | .convert .. | .slice .. | .fieldAddr .. | .field .. | .indexAddr .. | .index .. | .extract .. | .nilCheck _ => true
  | .call { callee := .builtin .len, .. } => true
  | _ => false
theorem val_of_pure {P : Program} {α : Type} {s : Sem α} {f : α → Value} {n : Next} {w w' : World} (h : (s >>= fun x => pure (Next.value (f x)) : Sem Next).run P w = .ok n w') : ∃ u, n = .value u := by
  rw [Sem.run_bind] at h
  cases hr : s.run P w with
  | ok v w1 =>
    rw [hr] at h
    simp only [Result.andThen_ok, Sem.run_pure, Result.ok.injEq] at h
    exact ⟨_, h.1.symm⟩
  | halt x w1 => rw [hr] at h; cases h
theorem ok_bind {P : Program} {α β : Type} {s : Sem α} {f : α → Sem β} {r : β} {w w' : World} (h : (s >>= f).run P w = .ok r w') : ∃ x w1, (f x).run P w1 = .ok r w' := by
  rw [Sem.run_bind] at h
  cases hr : s.run P w with
  | ok v w1 => rw [hr] at h; exact ⟨v, w1, h⟩
  | halt x w1 => rw [hr] at h; cases h
theorem nil_value {P : Program} {ρ : Operand → Value} {x : Operand} {dst : Option Tmp} {type : TypeId} {pos : String} {after : Array Edge} {guard : Option (Nat × Bool)} {n : Next} {w w' : World} (h : (execOp ρ ⟨dst, .nilCheck x, type, pos, after, guard⟩).run P w = .ok n w') : ∃ u, n = .value u := by
  have pure' : ∀ {u : Value} {w1 : World}, (pure (Next.value u) : Sem Next).run P w1 = .ok n w' → ∃ u, n = .value u := fun h => by
    simp only [Sem.run_pure, Result.ok.injEq] at h; exact ⟨_, h.1.symm⟩
  have nope : ∀ {w1 : World}, (runtimePanic .nilDeref : Sem Next).run P w1 = .ok n w' → ∃ u, n = .value u := fun h => by
    simp [runtimePanic, Sem.run_bind] at h
  simp only [execOp] at h
  split at h
  · exact nope h
  · exact nope h
  · exact nope h
  · split at h
    · exact nope h
    · obtain ⟨_, _, h⟩ := ok_bind h
      obtain ⟨_, _, h⟩ := ok_bind h
      split at h
      · obtain ⟨_, _, h⟩ := ok_bind h
        exact pure' h
      · exact pure' h
    · exact pure' h
  · exact pure' h
theorem valOp_value {P : Program} {ρ : Operand → Value} {o : Oper} {n : Next} {w w' : World} (hv : valOp o.op = true) (h : (execOp ρ o).run P w = .ok n w') : ∃ u, n = .value u := by
  obtain ⟨dst, op, type, pos, after, guard⟩ := o
  cases op
  case nilCheck => exact nil_value h
  case call c =>
    obtain ⟨callee, args, argTypes⟩ := c
    cases callee with
    | builtin b => cases b <;> first | (simp only [valOp, Bool.false_eq_true] at hv; done) | exact val_of_pure (s := Builtin.len_ argTypes type (args.map ρ)) (f := id) h
    | _ => simp only [valOp, Bool.false_eq_true] at hv
  all_goals simp only [valOp, Bool.false_eq_true] at hv
  all_goals simp only [execOp] at h
  all_goals
    first
      | exact val_of_pure (f := id) h
      | exact val_of_pure h
      | (simp only [Sem.run_pure, Result.ok.injEq] at h; exact ⟨_, h.1.symm⟩)
abbrev Cl (w : World) : World → Prop := fun w' => ∃ p : Regrown, w' = Go.Sort.grow (redrawn w p.d) p.os
theorem Cl.ext {w w' : World} (h : Cl w w') : Ext w w' := by obtain ⟨p, rfl⟩ := h; exact ext_regrown w p
theorem cl_of {w w' : World} (h : Ext w w') : Cl w w' := regrown_of_below h
section
variable {P : Program} {ops : Array Oper} {md : Region.Mode} {Q : Exit → Act → World → Prop}
theorem all_ready {l : List Nat} {f : Nat → Bool} (h : l.all f = true) {j : Nat} (hj : j ∈ l) : f j = true := List.all_eq_true.1 h j hj
/-! ### a walk by a plan: (number, is it taken first?); the others come up alone, and are walked in the world at hand -/
def planM (md : Region.Mode) (ops : Array Oper) : List (Nat × Bool) → Array Bool → Bool
  | [], s => (Region.ready md ops s).isEmpty
  | (i, b) :: r, s =>
    (match ops[i]? with
     | none => false
     | some oi => (Region.ready md ops s).contains i &&
        (if b then valOp oi.op && Region.free md ops s i else (Region.ready md ops s).all (· == i))) && planM md ops r (s.setIfInBounds i true)
def wpM (P : Program) (ops : Array Oper) (Q : Exit → Act → World → Prop) (w0 : World) : List (Oper × Bool) → Act → World → Prop
  | [], a, w => Q .normal a w
  | (o, b) :: r, a, w => if Region.wanted o (yielded ops a.tmps) then
      (if b then o.quiet P a (fun w' => ∃ p : Regrown, w' = Go.Sort.grow (redrawn w0 p.d) p.os) (fun a' => wpM P ops Q w0 r a' w) else o.wp P a w (fun a' w' => Ext w0 w' ∧ wpM P ops Q w0 r a' w') Q)
    else wpM P ops Q w0 r (a.put o.dst undef) w
theorem wpM_nil {w0 w : World} {a : Act} (h : Q .normal a w) : wpM P ops Q w0 [] a w := h
theorem wpM_val {w0 w : World} {a : Act} {o : Oper} {r : List (Oper × Bool)} (hw : Region.wanted o (yielded ops a.tmps) = true)
    (h : ∀ K : Act → Prop, (∀ a', wpM P ops Q w0 r a' w → K a') → o.quiet P a (fun w' => ∃ p : Regrown, w' = Go.Sort.grow (redrawn w0 p.d) p.os) K) : wpM P ops Q w0 ((o, true) :: r) a w := by
  unfold wpM; rw [if_pos hw, if_pos rfl]; exact h _ fun _ h => h
theorem wpM_do {w0 w : World} {a : Act} {o : Oper} {r : List (Oper × Bool)} (hw : Region.wanted o (yielded ops a.tmps) = true)
    (h : ∀ K : Act → World → Prop, (∀ a' w', Ext w0 w' → wpM P ops Q w0 r a' w' → K a' w') → o.wp P a w K Q) : wpM P ops Q w0 ((o, false) :: r) a w := by
  unfold wpM; rw [if_pos hw, if_neg (by decide)]; exact h _ fun _ _ h1 h2 => ⟨h1, h2⟩
theorem plm {w0 : World} (hsel : Region.noSelect ops = true) (hQ : ∀ c a x v w, Q (.panic c) (Act.put a (some x) v) w → Q (.panic c) a w) :
    ∀ (hs : List (Nat × Bool)) (s : Array Bool) (a : Act) (w : World), planM md ops hs s = true → Ext w0 w →
      wpM P ops Q w0 (hs.filterMap fun x => (ops[x.1]?).map fun o => (o, x.2)) a w → wpAnyH P md ops Q (Ext w0) hs.length s a w := by
  have hsel' := Region.noSelect_spec hsel
  have hQ' : ∀ c a x v w, Q (.panic c) (Act.put a x v) w → Q (.panic c) a w := fun c a x v w h => by
    cases x with
    | none => exact h
    | some x => exact hQ c a x v w h
  intro hs
  induction hs with
  | nil => intro s a w hB _ H; exact ⟨by simpa [planM] using hB, H⟩
  | cons x r ih =>
    obtain ⟨i, b⟩ := x
    intro s a w hB he H
    unfold planM at hB
    cases hi : ops[i]? with
    | none => rw [hi] at hB; simp at hB
    | some oi =>
      rw [hi] at hB
      simp only [Bool.and_eq_true] at hB
      obtain ⟨⟨hri, hc⟩, hrest⟩ := hB
      have hri' : i ∈ Region.ready md ops s := by simpa using hri
      have hlist : ((i, b) :: r).filterMap (fun x => (ops[x.1]?).map fun o => (o, x.2)) = (oi, b) :: r.filterMap (fun x => (ops[x.1]?).map fun o => (o, x.2)) := by simp [hi]
      rw [hlist] at H
      unfold wpM at H
      cases b with
      | true =>
        simp only [if_true, Bool.and_eq_true] at hc H
        obtain ⟨hv, hf⟩ := hc
        have main : ∃ v, YieldsIf P ops (Ext w0) oi v a ∧ wpM P ops Q w0 (r.filterMap fun x => (ops[x.1]?).map fun o => (o, x.2)) (a.put oi.dst v) w := by
          by_cases hw : Region.wanted oi (yielded ops a.tmps) = true
          · rw [if_pos hw] at H
            obtain ⟨u, hu, hG⟩ := H
            refine ⟨u, .inl ⟨hw, fun w1 he => ?_⟩, hG⟩
            have h1 := hu w1 (cl_of he)
            unfold Oper.quietAt at h1
            cases hr : (execOp a.eval oi).run P w1 with
            | halt x w2 => rw [hr] at h1; exact h1.elim
            | ok nx w2 =>
              obtain ⟨u', rfl⟩ := valOp_value hv hr
              rw [hr] at h1
              simp only [Oper.quietUpon] at h1
              rw [h1.1, h1.2]
          · rw [if_neg hw] at H
            exact ⟨undef, .inr ⟨by simpa using hw, rfl⟩, H⟩
        obtain ⟨v, hy, hG⟩ := main
        exact wpAnyH_first hi hsel' (fun c a w h => hQ' c a _ _ w h) _ _ _ _ (Region.free_spec hi hf) hri' hy he (ih _ _ w hrest he hG)
      | false =>
        simp only [if_false, Bool.false_eq_true] at hc H
        refine ⟨fun h0 => (by rw [h0] at hri'; cases hri'), fun j hj => ?_⟩
        have hji : j = i := by simpa using all_ready hc hj
        subst hji
        unfold wpOp
        simp only [hi]
        split
        · rename_i hw
          rw [if_pos hw] at H
          exact .inl (Oper.wp_mono (fun a' w' hx => ⟨hx.1, ih _ a' w' hrest hx.1 hx.2⟩) H)
        · rename_i hw
          rw [if_neg hw] at H
          exact ⟨he, ih _ _ w hrest he H⟩
theorem wp_region_walk {id : Nat} {a : Act} {w : World} {l : List Oper} (hs : List (Nat × Bool))
    (hm : P.follows .mixedOrders = true) (hsel : Region.noSelect l.toArray = true)
    (hQ : ∀ c a x v w, Q (.panic c) (Act.put a (some x) v) w → Q (.panic c) a w)
    (hB : planM .any l.toArray hs (Array.replicate l.toArray.size false) = true) (hn : l.length = hs.length)
    (h : wpM P l.toArray Q w (hs.filterMap fun x => (l.toArray[x.1]?).map fun o => (o, x.2)) a w.drew) : (Code.region id l.toArray true).wp P Q a w := by
  have := plm (P := P) (ops := l.toArray) (md := .any) (Q := Q) (w0 := w) hsel hQ hs _ a w.drew hB (ext_refl w).draw h
  refine wp_region_held (S := Ext w) hm ?_
  have e : l.toArray.size = hs.length := by simpa using hn
  rw [e]
  rw [e] at this
  exact this
/-! ### a walk by a tree: where two operations may come up, both orders are walked -/
inductive Tr where
  | nil
  | one (i : Nat) (b : Bool) (t : Tr)
  | two (i j : Nat) (t u : Tr)
inductive TrO where
  | nil
  | one (o : Oper) (b : Bool) (t : TrO)
  | two (o p : Oper) (t u : TrO)
def fillT (l : List Oper) : Tr → TrO
  | .nil => .nil
  | .one i b t => .one (l.getD i default) b (fillT l t)
  | .two i j t u => .two (l.getD i default) (l.getD j default) (fillT l t) (fillT l u)
def Tr.len : Tr → Nat
  | .nil => 0
  | .one _ _ t => t.len + 1
  | .two _ _ t _ => t.len + 1
def planT (md : Region.Mode) (ops : Array Oper) : Tr → Array Bool → Bool
  | .nil, s => (Region.ready md ops s).isEmpty
  | .one i b t, s =>
    (match ops[i]? with
     | none => false
     | some oi => (Region.ready md ops s).contains i &&
        (if b then valOp oi.op && Region.free md ops s i else (Region.ready md ops s).all (· == i))) && planT md ops t (s.setIfInBounds i true)
  | .two i j t u, s => (ops[i]?).isSome && (ops[j]?).isSome && (Region.ready md ops s).contains i && (Region.ready md ops s).all (fun k => k == i || k == j) && (t.len == u.len) &&
      planT md ops t (s.setIfInBounds i true) && planT md ops u (s.setIfInBounds j true)
def wpTO (P : Program) (ops : Array Oper) (Q : Exit → Act → World → Prop) (w0 : World) : TrO → Act → World → Prop
  | .nil, a, w => Q .normal a w
  | .one o b r, a, w => if Region.wanted o (yielded ops a.tmps) then
      (if b then o.quiet P a (fun w' => ∃ p : Regrown, w' = Go.Sort.grow (redrawn w0 p.d) p.os) (fun a' => wpTO P ops Q w0 r a' w) else o.wp P a w (fun a' w' => Ext w0 w' ∧ wpTO P ops Q w0 r a' w') Q)
    else wpTO P ops Q w0 r (a.put o.dst undef) w
  | .two o p r q, a, w => (if Region.wanted o (yielded ops a.tmps) then o.wp P a w (fun a' w' => Ext w0 w' ∧ wpTO P ops Q w0 r a' w') Q else wpTO P ops Q w0 r (a.put o.dst undef) w) ∧
      (if Region.wanted p (yielded ops a.tmps) then p.wp P a w (fun a' w' => Ext w0 w' ∧ wpTO P ops Q w0 q a' w') Q else wpTO P ops Q w0 q (a.put p.dst undef) w)
theorem wpTO_nil {w0 w : World} {a : Act} (h : Q .normal a w) : wpTO P ops Q w0 .nil a w := h
theorem wpTO_val {w0 w : World} {a : Act} {o : Oper} {r : TrO} (hw : Region.wanted o (yielded ops a.tmps) = true)
    (h : ∀ K : Act → Prop, (∀ a', wpTO P ops Q w0 r a' w → K a') → o.quiet P a (fun w' => ∃ p : Regrown, w' = Go.Sort.grow (redrawn w0 p.d) p.os) K) : wpTO P ops Q w0 (.one o true r) a w := by
  unfold wpTO; rw [if_pos hw, if_pos rfl]; exact h _ fun _ h => h
theorem wpTO_do {w0 w : World} {a : Act} {o : Oper} {r : TrO} (hw : Region.wanted o (yielded ops a.tmps) = true)
    (h : ∀ K : Act → World → Prop, (∀ a' w', Ext w0 w' → wpTO P ops Q w0 r a' w' → K a' w') → o.wp P a w K Q) : wpTO P ops Q w0 (.one o false r) a w := by
  unfold wpTO; rw [if_pos hw, if_neg (by decide)]; exact h _ fun _ _ h1 h2 => ⟨h1, h2⟩
theorem wpTO_two {w0 w : World} {a : Act} {o p : Oper} {r q : TrO} (h1 : wpTO P ops Q w0 (.one o false r) a w) (h2 : wpTO P ops Q w0 (.one p false q) a w) : wpTO P ops Q w0 (.two o p r q) a w := by
  unfold wpTO at *
  simp only [Bool.false_eq_true, if_false] at h1 h2
  exact ⟨h1, h2⟩
theorem getD_of {l : List Oper} {i : Nat} {o : Oper} (h : l.toArray[i]? = some o) : l.getD i default = o := by
  rw [List.getElem?_toArray] at h
  rw [List.getD_eq_getElem?_getD, h]; rfl
theorem pltr {w0 : World} {l : List Oper} (hsel : Region.noSelect l.toArray = true) (hQ : ∀ c a x v w, Q (.panic c) (Act.put a (some x) v) w → Q (.panic c) a w) :
    ∀ (t : Tr) (s : Array Bool) (a : Act) (w : World), planT md l.toArray t s = true → Ext w0 w →
      wpTO P l.toArray Q w0 (fillT l t) a w → wpAnyH P md l.toArray Q (Ext w0) t.len s a w := by
  have hsel' := Region.noSelect_spec hsel
  have hQ' : ∀ c a x v w, Q (.panic c) (Act.put a x v) w → Q (.panic c) a w := fun c a x v w h => by
    cases x with
    | none => exact h
    | some x => exact hQ c a x v w h
  intro t
  induction t with
  | nil => intro s a w hB _ H; exact ⟨by simpa [planT] using hB, H⟩
  | one i b r ih =>
    intro s a w hB he H
    unfold planT at hB
    cases hi : l.toArray[i]? with
    | none => rw [hi] at hB; simp at hB
    | some oi =>
      rw [hi] at hB
      simp only [Bool.and_eq_true] at hB
      obtain ⟨⟨hri, hc⟩, hrest⟩ := hB
      have hri' : i ∈ Region.ready md l.toArray s := by simpa using hri
      unfold fillT at H
      rw [getD_of hi] at H
      unfold wpTO at H
      cases b with
      | true =>
        simp only [if_true, Bool.and_eq_true] at hc H
        obtain ⟨hv, hf⟩ := hc
        have main : ∃ v, YieldsIf P l.toArray (Ext w0) oi v a ∧ wpTO P l.toArray Q w0 (fillT l r) (a.put oi.dst v) w := by
          by_cases hw : Region.wanted oi (yielded l.toArray a.tmps) = true
          · rw [if_pos hw] at H
            obtain ⟨u, hu, hG⟩ := H
            refine ⟨u, .inl ⟨hw, fun w1 he => ?_⟩, hG⟩
            have h1 := hu w1 (cl_of he)
            unfold Oper.quietAt at h1
            cases hr : (execOp a.eval oi).run P w1 with
            | halt x w2 => rw [hr] at h1; exact h1.elim
            | ok nx w2 =>
              obtain ⟨u', rfl⟩ := valOp_value hv hr
              rw [hr] at h1
              simp only [Oper.quietUpon] at h1
              rw [h1.1, h1.2]
          · rw [if_neg hw] at H
            exact ⟨undef, .inr ⟨by simpa using hw, rfl⟩, H⟩
        obtain ⟨v, hy, hG⟩ := main
        exact wpAnyH_first hi hsel' (fun c a w h => hQ' c a _ _ w h) _ _ _ _ (Region.free_spec hi hf) hri' hy he (ih _ _ w hrest he hG)
      | false =>
        simp only [if_false, Bool.false_eq_true] at hc H
        refine ⟨fun h0 => (by rw [h0] at hri'; cases hri'), fun j hj => ?_⟩
        have hji : j = i := by simpa using all_ready hc hj
        subst hji
        unfold wpOp
        simp only [hi]
        split
        · rename_i hw
          rw [if_pos hw] at H
          exact .inl (Oper.wp_mono (fun a' w' hx => ⟨hx.1, ih _ a' w' hrest hx.1 hx.2⟩) H)
        · rename_i hw
          rw [if_neg hw] at H
          exact ⟨he, ih _ _ w hrest he H⟩
  | two i j r q ih1 ih2 =>
    intro s a w hB he H
    simp only [planT, Bool.and_eq_true, beq_iff_eq] at hB
    obtain ⟨⟨⟨⟨⟨⟨hsi, hsj⟩, hri⟩, hall⟩, hlen⟩, hr1⟩, hr2⟩ := hB
    obtain ⟨oi, hi⟩ := Option.isSome_iff_exists.1 hsi
    obtain ⟨oj, hj⟩ := Option.isSome_iff_exists.1 hsj
    have hri' : i ∈ Region.ready md l.toArray s := by simpa using hri
    unfold fillT at H
    rw [getD_of hi, getD_of hj] at H
    unfold wpTO at H
    obtain ⟨H1, H2⟩ := H
    refine ⟨fun h0 => (by rw [h0] at hri'; cases hri'), fun k hk => ?_⟩
    have hk' := all_ready hall hk
    simp only [Bool.or_eq_true, beq_iff_eq] at hk'
    rcases hk' with rfl | rfl
    · unfold wpOp
      simp only [hi]
      split
      · rename_i hw
        rw [if_pos hw] at H1
        exact .inl (Oper.wp_mono (fun a' w' hx => ⟨hx.1, ih1 _ a' w' hr1 hx.1 hx.2⟩) H1)
      · rename_i hw
        rw [if_neg hw] at H1
        exact ⟨he, ih1 _ _ w hr1 he H1⟩
    · unfold wpOp
      simp only [hj]
      split
      · rename_i hw
        rw [if_pos hw] at H2
        exact .inl (Oper.wp_mono (fun a' w' hx => ⟨hx.1, hlen ▸ ih2 _ a' w' hr2 hx.1 hx.2⟩) H2)
      · rename_i hw
        rw [if_neg hw] at H2
        exact ⟨he, hlen ▸ ih2 _ _ w hr2 he H2⟩
theorem wp_region_tree {id : Nat} {a : Act} {w : World} {l : List Oper} (t : Tr)
    (hm : P.follows .mixedOrders = true) (hsel : Region.noSelect l.toArray = true)
    (hQ : ∀ c a x v w, Q (.panic c) (Act.put a (some x) v) w → Q (.panic c) a w)
    (hB : planT .any l.toArray t (Array.replicate l.toArray.size false) = true) (hn : l.length = t.len)
    (h : wpTO P l.toArray Q w (fillT l t) a w.drew) : (Code.region id l.toArray true).wp P Q a w := by
  have := pltr (P := P) (md := .any) (Q := Q) (w0 := w) hsel hQ t _ a w.drew hB (ext_refl w).draw h
  refine wp_region_held (S := Ext w) hm ?_
  have e : l.toArray.size = t.len := by simpa using hn
  rw [e]
  rw [e] at this
  exact this
end
end Hy
end
section
namespace Hy
open Go Go.RowKit
section
variable {P : Program} {ops : Array Oper} {md : Region.Mode} {Q : Exit → Act → World → Prop} {S : World → Prop} {late : Nat → Bool}
def reachB (md : Region.Mode) (ops : Array Oper) (i : Nat) : Nat → Nat → Bool
  | 0, _ => false
  | f + 1, t => match ops[t]? with
    | some o => o.after.any fun e => Region.binds md e && (e.on == i || reachB md ops i f e.on)
    | none => false
def Closed (md : Region.Mode) (ops : Array Oper) (s : Array Bool) : Prop := ∀ (j : Nat) oj, ops[j]? = some oj → s.getD j false = true → ∀ e ∈ oj.after, Region.binds md e = true → s.getD e.on false = true
theorem set_mono {s : Array Bool} {i k : Nat} (h : s.getD k false = true) : (s.setIfInBounds i true).getD k false = true := by
  simp only [Array.getD_eq_getD_getElem?, Array.getElem?_setIfInBounds] at h ⊢
  split
  · split
    · rfl
    · rename_i h1 h2; subst h1; rw [Array.getElem?_eq_none (by omega)] at h; exact h
  · exact h
theorem set_back {s : Array Bool} {i k : Nat} (h : (s.setIfInBounds i true).getD k false = true) : k = i ∨ s.getD k false = true := by
  by_cases e : i = k
  · exact .inl e.symm
  · right
    simpa only [Array.getD_eq_getD_getElem?, Array.getElem?_setIfInBounds, if_neg e] using h
theorem closed_new (n : Nat) : Closed md ops (Array.replicate n false) := fun j oj _ h => by
  simp only [Array.getD_eq_getD_getElem?, Array.getElem?_replicate] at h
  split at h <;> cases h
theorem Closed.set {s : Array Bool} (h : Closed md ops s) {i : Nat} (hi : i ∈ Region.ready md ops s) : Closed md ops (s.setIfInBounds i true) := fun j oj hj hs e he hb => by
  rcases set_back hs with rfl | h1
  · obtain ⟨_, oj', hoj', hall⟩ := mem_ready.1 hi
    cases hj.symm.trans hoj'
    exact set_mono (hall e he hb)
  · exact set_mono (h j oj hj h1 e he hb)
theorem reach_listed {s : Array Bool} (h : Closed md ops s) {i : Nat} : ∀ (f t : Nat), (∀ ot, ops[t]? = some ot → ∀ e ∈ ot.after, Region.binds md e = true → s.getD e.on false = true) → reachB md ops i f t = true → s.getD i false = true
  | 0, _, _, hr => by cases hr
  | f + 1, t, ht, hr => by
    unfold reachB at hr
    cases hot : ops[t]? with
    | none => rw [hot] at hr; cases hr
    | some ot =>
      rw [hot] at hr
      obtain ⟨e, he, h2⟩ := Array.any_eq_true'.1 hr
      simp only [Bool.and_eq_true, Bool.or_eq_true, beq_iff_eq] at h2
      obtain ⟨hb, h3⟩ := h2
      have h4 := ht ot hot e he hb
      rcases h3 with h3 | h3
      · rw [← h3]; exact h4
      · exact reach_listed h f e.on (fun oe hoe e2 he2 hb2 => h e.on oe hoe h4 e2 he2 hb2) h3
def lateB (md : Region.Mode) (ops : Array Oper) (ls : List Nat) (i : Nat) : Bool := ls.all fun t => reachB md ops i ops.size t
theorem not_late {ls : List Nat} {i j : Nat} {s : Array Bool} (h : Closed md ops s) (hl : lateB md ops ls i = true) (hi : i ∈ Region.ready md ops s) (hj : j ∈ Region.ready md ops s) : ls.contains j = false := by
  cases hc : ls.contains j with
  | false => rfl
  | true =>
    exfalso
    have hm : j ∈ ls := by simpa using hc
    have hr := List.all_eq_true.1 hl j hm
    obtain ⟨_, oj, hoj, hall⟩ := mem_ready.1 hj
    have h1 := reach_listed h ops.size j (fun ot hot e he hb => by cases hoj.symm.trans hot; exact hall e he hb) hr
    have h0 := (mem_ready.1 hi).1
    simp only [Array.getD_eq_getD_getElem?] at h0 h1
    cases hs : s[i]? with
    | none => rw [hs] at h1; cases h1
    | some b => rw [hs] at h0 h1; simp only [Option.getD_some] at h0 h1; rw [h0] at h1; cases h1
def wpAnyL (P : Program) (md : Region.Mode) (ops : Array Oper) (Q : Exit → Act → World → Prop) (S : World → Prop) (ls : List Nat) : Nat → Array Bool → Act → World → Prop
  | 0, s, a, w => Region.ready md ops s = [] ∧ Q .normal a w
  | n + 1, s, a, w => (Region.ready md ops s = [] → Q .normal a w) ∧
    ∀ i ∈ Region.ready md ops s, wpOp P ops Q i (fun a' w' => (ls.contains i = false → S w → S w') ∧ wpAnyL P md ops Q S ls n (s.setIfInBounds i true) a' w') a w
theorem wpAny_of_L {ls : List Nat} : ∀ (n : Nat) (s : Array Bool) (a : Act) (w : World), wpAnyL P md ops Q S ls n s a w → wpAny P md ops Q n s a w
  | 0, _, _, _, h => h
  | n + 1, _, _, _, h => ⟨h.1, fun i hi => wpOp_mono (fun a' w' h' => wpAny_of_L n _ a' w' h'.2) (h.2 i hi)⟩
theorem wpAnyL_first {ls : List Nat} {i : Nat} {oi : Oper} {v : Value} (hi : ops[i]? = some oi) (hsel : ∀ (j : Nat) (o : Oper) cs b, ops[j]? = some o → o.op ≠ .select cs b)
    (hQ : ∀ c a w, Q (.panic c) (a.put oi.dst v) w → Q (.panic c) a w) (hl : lateB md ops ls i = true) :
    ∀ (fuel : Nat) (s : Array Bool) (a : Act) (w : World), Closed md ops s →
      (∀ j oj, ops[j]? = some oj → j ≠ i → s.getD j true = false → (∀ e ∈ oj.after, Region.binds md e = true → e.on ≠ i) → oi.apart ops oj = true) →
      i ∈ Region.ready md ops s → YieldsIf P ops S oi v a → S w →
      wpAnyL P md ops Q S ls fuel (s.setIfInBounds i true) (a.put oi.dst v) w → wpAnyL P md ops Q S ls (fuel + 1) s a w := by
  intro fuel
  induction fuel with
  | zero =>
    intro s a w _ _ hr hy hS H
    refine ⟨fun h => (by rw [h] at hr; cases hr), fun j hj => ?_⟩
    by_cases hji : j = i
    · subst hji; exact hy.wpOp hi hS ⟨fun _ _ => hS, H⟩
    · have := ready_mono hj hji
      rw [H.1] at this
      cases this
  | succ fuel ih =>
    intro s a w hcl hfree hr hy hS H
    refine ⟨fun h => (by rw [h] at hr; cases hr), fun j hj => ?_⟩
    by_cases hji : j = i
    · subst hji; exact hy.wpOp hi hS ⟨fun _ _ => hS, H⟩
    · have h1 := H.2 j (ready_mono hj hji)
      have hjl := not_late hcl hl hr hj
      obtain ⟨hjun, oj, hoj, hall⟩ := mem_ready.1 hj
      have hnot : ∀ e ∈ oj.after, Region.binds md e = true → e.on ≠ i := fun e he hb heq => by
        have h1 := hall e he hb
        have h0 := (mem_ready.1 hr).1
        rw [heq] at h1
        rcases Nat.lt_or_ge i s.size with h' | h'
        · simp [h'] at h0 h1; rw [h0] at h1; cases h1
        · simp [Array.getElem?_eq_none h'] at h1
      have h2 := wpOp_putIf hoj (hfree j oj hoj hji hjun hnot) (fun cs b => hsel i oi cs b hi) (fun cs b => hsel j oj cs b hoj) hQ hy h1
      have hfree' : ∀ k ok, ops[k]? = some ok → k ≠ i → (s.setIfInBounds j true).getD k true = false →
          (∀ e ∈ ok.after, Region.binds md e = true → e.on ≠ i) → oi.apart ops ok = true := fun k ok hk hki hun hno => by
        refine hfree k ok hk hki ?_ hno
        by_cases hjk : j = k
        · subst hjk; exact hjun
        · rw [getD_set_ne true hjk] at hun; exact hun
      refine wpOp_mono (fun a' w' h3 => ⟨fun _ _ => h3.2.1 hjl hS, ih (s.setIfInBounds j true) a' w' (hcl.set hj) hfree' (ready_mono hr (Ne.symm hji)) h3.1 (h3.2.1 hjl hS) ?_⟩) h2
      rw [Array.setIfInBounds_comm _ _ hji]
      exact h3.2.2
theorem wpAnyL_pure {ls : List Nat} {i : Nat} {oi : Oper} {v : Value} (hi : ops[i]? = some oi) (hsel : ∀ (j : Nat) (o : Oper) cs b, ops[j]? = some o → o.op ≠ .select cs b)
    (hQ : ∀ c a w, Q (.panic c) (a.put oi.dst v) w → Q (.panic c) a w) :
    ∀ (fuel : Nat) (s : Array Bool) (a : Act) (w : World), 
      (∀ j oj, ops[j]? = some oj → j ≠ i → s.getD j true = false → (∀ e ∈ oj.after, Region.binds md e = true → e.on ≠ i) → oi.apart ops oj = true) →
      i ∈ Region.ready md ops s → YieldsIf P ops (fun _ => True) oi v a →
      wpAnyL P md ops Q S ls fuel (s.setIfInBounds i true) (a.put oi.dst v) w → wpAnyL P md ops Q S ls (fuel + 1) s a w := by
  intro fuel
  induction fuel with
  | zero =>
    intro s a w _ hr hy H
    refine ⟨fun h => (by rw [h] at hr; cases hr), fun j hj => ?_⟩
    by_cases hji : j = i
    · subst hji; exact hy.wpOp hi trivial ⟨fun _ h => h, H⟩
    · have := ready_mono hj hji
      rw [H.1] at this
      cases this
  | succ fuel ih =>
    intro s a w hfree hr hy H
    refine ⟨fun h => (by rw [h] at hr; cases hr), fun j hj => ?_⟩
    by_cases hji : j = i
    · subst hji; exact hy.wpOp hi trivial ⟨fun _ h => h, H⟩
    · have h1 := H.2 j (ready_mono hj hji)
      obtain ⟨hjun, oj, hoj, hall⟩ := mem_ready.1 hj
      have hnot : ∀ e ∈ oj.after, Region.binds md e = true → e.on ≠ i := fun e he hb heq => by
        have h1 := hall e he hb
        have h0 := (mem_ready.1 hr).1
        rw [heq] at h1
        rcases Nat.lt_or_ge i s.size with h' | h'
        · simp [h'] at h0 h1; rw [h0] at h1; cases h1
        · simp [Array.getElem?_eq_none h'] at h1
      have h2 := wpOp_putIf hoj (hfree j oj hoj hji hjun hnot) (fun cs b => hsel i oi cs b hi) (fun cs b => hsel j oj cs b hoj) hQ hy h1
      have hfree' : ∀ k ok, ops[k]? = some ok → k ≠ i → (s.setIfInBounds j true).getD k true = false →
          (∀ e ∈ ok.after, Region.binds md e = true → e.on ≠ i) → oi.apart ops ok = true := fun k ok hk hki hun hno => by
        refine hfree k ok hk hki ?_ hno
        by_cases hjk : j = k
        · subst hjk; exact hjun
        · rw [getD_set_ne true hjk] at hun; exact hun
      refine wpOp_mono (fun a' w' h3 => ⟨h3.2.1, ih (s.setIfInBounds j true) a' w' hfree' (ready_mono hr (Ne.symm hji)) h3.1 ?_⟩) h2
      rw [Array.setIfInBounds_comm _ _ hji]
      exact h3.2.2
def tailL (ls ps : List Nat) (x : Nat × Bool) : Bool := if x.2 then ps.contains x.1 else ls.contains x.1
def planL (md : Region.Mode) (ops : Array Oper) (ls ps : List Nat) : List (Nat × Bool) → Array Bool → Bool
  | [], s => (Region.ready md ops s).isEmpty
  | (i, b) :: r, s =>
    (match ops[i]? with
     | none => false
     | some oi => (Region.ready md ops s).contains i &&
        (if b then valOp oi.op && Region.free md ops s i && (ps.contains i || lateB md ops ls i && !ls.contains i) else (Region.ready md ops s).all (· == i) && (!ls.contains i || r.all (tailL ls ps)))) && planL md ops ls ps r (s.setIfInBounds i true)
def wpL (P : Program) (ops : Array Oper) (Q : Exit → Act → World → Prop) (w0 : World) : List (Oper × Bool × Bool × Bool) → Act → World → Prop
  | [], a, w => Q .normal a w
  | (o, b, l, p) :: r, a, w => if Region.wanted o (yielded ops a.tmps) then
      (if b then (if p then o.quiet P a (fun _ => True) (fun a' => wpL P ops Q w0 r a' w) else o.quiet P a (fun w' => ∃ p : Regrown, w' = Go.Sort.grow (redrawn w0 p.d) p.os) (fun a' => wpL P ops Q w0 r a' w)) else o.wp P a w (fun a' w' => (l = false → Ext w0 w') ∧ wpL P ops Q w0 r a' w') Q)
    else wpL P ops Q w0 r (a.put o.dst undef) w
theorem wpL_nil {w0 w : World} {a : Act} (h : Q .normal a w) : wpL P ops Q w0 [] a w := h
theorem wpL_val {w0 w : World} {a : Act} {o : Oper} {l : Bool} {r : List (Oper × Bool × Bool × Bool)} (hw : Region.wanted o (yielded ops a.tmps) = true)
    (h : ∀ K : Act → Prop, (∀ a', wpL P ops Q w0 r a' w → K a') → o.quiet P a (fun w' => ∃ p : Regrown, w' = Go.Sort.grow (redrawn w0 p.d) p.os) K) : wpL P ops Q w0 ((o, true, l, false) :: r) a w := by
  unfold wpL; rw [if_pos hw, if_pos rfl, if_neg (by decide)]; exact h _ fun _ h => h
theorem wpL_pure {w0 w : World} {a : Act} {o : Oper} {l : Bool} {r : List (Oper × Bool × Bool × Bool)} (hw : Region.wanted o (yielded ops a.tmps) = true)
    (h : ∀ K : Act → Prop, (∀ a', wpL P ops Q w0 r a' w → K a') → o.quiet P a (fun _ => True) K) : wpL P ops Q w0 ((o, true, l, true) :: r) a w := by
  unfold wpL; rw [if_pos hw, if_pos rfl, if_pos rfl]; exact h _ fun _ h => h
theorem wpL_do {w0 w : World} {a : Act} {o : Oper} {p : Bool} {r : List (Oper × Bool × Bool × Bool)} (hw : Region.wanted o (yielded ops a.tmps) = true)
    (h : ∀ K : Act → World → Prop, (∀ a' w', Ext w0 w' → wpL P ops Q w0 r a' w' → K a' w') → o.wp P a w K Q) : wpL P ops Q w0 ((o, false, false, p) :: r) a w := by
  unfold wpL; rw [if_pos hw, if_neg (by decide)]; exact h _ fun _ _ h1 h2 => ⟨fun _ => h1, h2⟩
theorem wpL_late {w0 w : World} {a : Act} {o : Oper} {p : Bool} {r : List (Oper × Bool × Bool × Bool)} (hw : Region.wanted o (yielded ops a.tmps) = true)
    (h : ∀ K : Act → World → Prop, (∀ a' w', wpL P ops Q w0 r a' w' → K a' w') → o.wp P a w K Q) : wpL P ops Q w0 ((o, false, true, p) :: r) a w := by
  unfold wpL; rw [if_pos hw, if_neg (by decide)]; exact h _ fun _ _ h2 => ⟨fun h => (by cases h), h2⟩
theorem pll {ls ps : List Nat} {w0 : World} (hsel : Region.noSelect ops = true) (hQ : ∀ c a x v w, Q (.panic c) (Act.put a (some x) v) w → Q (.panic c) a w) :
    ∀ (hs : List (Nat × Bool)) (s : Array Bool) (a : Act) (w : World), planL md ops ls ps hs s = true → Closed md ops s → (hs.all (tailL ls ps) = false → Ext w0 w) →
      wpL P ops Q w0 (hs.filterMap fun x => (ops[x.1]?).map fun o => (o, x.2, ls.contains x.1, ps.contains x.1)) a w → wpAnyL P md ops Q (Ext w0) ls hs.length s a w := by
  have hsel' := Region.noSelect_spec hsel
  have hQ' : ∀ c a x v w, Q (.panic c) (Act.put a x v) w → Q (.panic c) a w := fun c a x v w h => by
    cases x with
    | none => exact h
    | some x => exact hQ c a x v w h
  intro hs
  induction hs with
  | nil => intro s a w hB _ _ H; exact ⟨by simpa [planL] using hB, H⟩
  | cons x r ih =>
    obtain ⟨i, b⟩ := x
    intro s a w hB hcl he H
    unfold planL at hB
    cases hi : ops[i]? with
    | none => rw [hi] at hB; simp at hB
    | some oi =>
      rw [hi] at hB
      simp only [Bool.and_eq_true] at hB
      obtain ⟨⟨hri, hc⟩, hrest⟩ := hB
      have hri' : i ∈ Region.ready md ops s := by simpa using hri
      have hlist : ((i, b) :: r).filterMap (fun x => (ops[x.1]?).map fun o => (o, x.2, ls.contains x.1, ps.contains x.1)) = (oi, b, ls.contains i, ps.contains i) :: r.filterMap (fun x => (ops[x.1]?).map fun o => (o, x.2, ls.contains x.1, ps.contains x.1)) := by simp [hi]
      rw [hlist] at H
      unfold wpL at H
      cases b with
      | true =>
        simp only [if_true, Bool.and_eq_true, Bool.or_eq_true, Bool.not_eq_true'] at hc H
        obtain ⟨⟨hv, hf⟩, hwt⟩ := hc
        cases hp : ps.contains i with
        | true =>
          rw [hp] at H
          simp only [if_true] at H
          have main : ∃ v, YieldsIf P ops (fun _ => True) oi v a ∧ wpL P ops Q w0 (r.filterMap fun x => (ops[x.1]?).map fun o => (o, x.2, ls.contains x.1, ps.contains x.1)) (a.put oi.dst v) w := by
            by_cases hw : Region.wanted oi (yielded ops a.tmps) = true
            · rw [if_pos hw] at H
              obtain ⟨u, hu, hG⟩ := H
              refine ⟨u, .inl ⟨hw, fun w1 he => ?_⟩, hG⟩
              have h1 := hu w1 he
              unfold Oper.quietAt at h1
              cases hr : (execOp a.eval oi).run P w1 with
              | halt x w2 => rw [hr] at h1; exact h1.elim
              | ok nx w2 =>
                obtain ⟨u', rfl⟩ := valOp_value hv hr
                rw [hr] at h1
                simp only [Oper.quietUpon] at h1
                rw [h1.1, h1.2]
            · rw [if_neg hw] at H
              exact ⟨undef, .inr ⟨by simpa using hw, rfl⟩, H⟩
          obtain ⟨v, hy, hG⟩ := main
          exact wpAnyL_pure hi hsel' (fun c a w h => hQ' c a _ _ w h) _ _ _ _ (Region.free_spec hi hf) hri' hy (ih _ _ w hrest (hcl.set hri') (fun h => he (by rw [List.all_cons, h, Bool.and_false])) hG)
        | false =>
          rw [hp] at H hwt
          simp only [if_false, Bool.false_eq_true, false_or] at H hwt
          obtain ⟨hwt, hnl⟩ := hwt
          have he0 : Ext w0 w := he (by rw [List.all_cons]; unfold tailL; simp only [if_true, hp, Bool.false_and])
          have main : ∃ v, YieldsIf P ops (Ext w0) oi v a ∧ wpL P ops Q w0 (r.filterMap fun x => (ops[x.1]?).map fun o => (o, x.2, ls.contains x.1, ps.contains x.1)) (a.put oi.dst v) w := by
            by_cases hw : Region.wanted oi (yielded ops a.tmps) = true
            · rw [if_pos hw] at H
              obtain ⟨u, hu, hG⟩ := H
              refine ⟨u, .inl ⟨hw, fun w1 he => ?_⟩, hG⟩
              have h1 := hu w1 (cl_of he)
              unfold Oper.quietAt at h1
              cases hr : (execOp a.eval oi).run P w1 with
              | halt x w2 => rw [hr] at h1; exact h1.elim
              | ok nx w2 =>
                obtain ⟨u', rfl⟩ := valOp_value hv hr
                rw [hr] at h1
                simp only [Oper.quietUpon] at h1
                rw [h1.1, h1.2]
            · rw [if_neg hw] at H
              exact ⟨undef, .inr ⟨by simpa using hw, rfl⟩, H⟩
          obtain ⟨v, hy, hG⟩ := main
          exact wpAnyL_first hi hsel' (fun c a w h => hQ' c a _ _ w h) hwt _ _ _ _ hcl (Region.free_spec hi hf) hri' hy he0 (ih _ _ w hrest (hcl.set hri') (fun _ => he0) hG)
      | false =>
        simp only [if_false, Bool.false_eq_true, Bool.and_eq_true, Bool.or_eq_true, Bool.not_eq_true'] at hc H
        obtain ⟨hc, hlast⟩ := hc
        refine ⟨fun h0 => (by rw [h0] at hri'; cases hri'), fun j hj => ?_⟩
        have hji : j = i := by simpa using all_ready hc hj
        subst hji
        have hnext : ∀ w', (ls.contains j = false → Ext w0 w') → r.all (tailL ls ps) = false → Ext w0 w' := fun w' h1 h2 => by
          rcases hlast with h | h
          · exact h1 h
          · rw [h2] at h; cases h
        unfold wpOp
        simp only [hi]
        split
        · rename_i hw
          rw [if_pos hw] at H
          exact .inl (Oper.wp_mono (fun a' w' hx => ⟨fun h _ => hx.1 h, ih _ a' w' hrest (hcl.set hri') (hnext w' hx.1) hx.2⟩) H)
        · rename_i hw
          rw [if_neg hw] at H
          have h1 : ls.contains j = false → Ext w0 w := fun h => he (by rw [List.all_cons]; unfold tailL; simp only [h, if_false, Bool.false_eq_true, Bool.false_and])
          exact ⟨fun _ h => h, ih _ _ w hrest (hcl.set hri') (hnext w h1) H⟩
theorem wp_region_late {id : Nat} {a : Act} {w : World} {L : List Oper} (ls ps : List Nat) (hs : List (Nat × Bool))
    (hm : P.follows .mixedOrders = true) (hsel : Region.noSelect L.toArray = true)
    (hQ : ∀ c a x v w, Q (.panic c) (Act.put a (some x) v) w → Q (.panic c) a w)
    (hB : planL .any L.toArray ls ps hs (Array.replicate L.toArray.size false) = true) (hn : L.length = hs.length)
    (h : wpL P L.toArray Q w (hs.filterMap fun x => (L.toArray[x.1]?).map fun o => (o, x.2, ls.contains x.1, ps.contains x.1)) a w.drew) : (Code.region id L.toArray true).wp P Q a w := by
  have := pll (P := P) (ops := L.toArray) (md := .any) (Q := Q) (w0 := w) (ls := ls) (ps := ps) hsel hQ hs _ a w.drew hB (closed_new _) (fun _ => (ext_refl w).draw) h
  refine wp_region_any hm (wpAny_of_L (S := Ext w) (ls := ls) _ _ _ _ ?_)
  have e : L.toArray.size = hs.length := by simpa using hn
  rw [e]
  rw [e] at this
  exact this
end
end Hy
end
section
section
namespace Hy
open Go Go.RowKit
section
variable {P : Program} {ops : Array Oper} {md : Region.Mode} {Q : Exit → Act → World → Prop} {w0 : World} {ls : List Nat}
def left (s : Array Bool) : List Nat → Nat
  | [] => 0
  | k :: r => (if s.getD k false = true then 0 else 1) + left s r
end
end Hy
end
end
end
