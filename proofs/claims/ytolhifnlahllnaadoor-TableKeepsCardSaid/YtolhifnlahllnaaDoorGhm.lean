/- A region that draws its order: as wp_region_late, but what may come up anywhere answers alike in all worlds of which T holds; all keep T. No program in sight. A region that draws its order, with late operations (XGhl), where two others may come up at once: both orders are walked. No program in sight. -/
import Derived.Test.YtolhifnlahllnaaDoorGhl
section
namespace Hy
open Go Go.RowKit
section
variable {P : Program} {ops : Array Oper} {md : Region.Mode} {Q : Exit → Act → World → Prop} {S T : World → Prop} {late : Nat → Bool}
def wpAnyU (P : Program) (md : Region.Mode) (ops : Array Oper) (Q : Exit → Act → World → Prop) (S T : World → Prop) (ls : List Nat) : Nat → Array Bool → Act → World → Prop
  | 0, s, a, w => Region.ready md ops s = [] ∧ Q .normal a w
  | n + 1, s, a, w => (Region.ready md ops s = [] → Q .normal a w) ∧
    ∀ i ∈ Region.ready md ops s, wpOp P ops Q i (fun a' w' => ((ls.contains i = false → S w → S w') ∧ (T w → T w')) ∧ wpAnyU P md ops Q S T ls n (s.setIfInBounds i true) a' w') a w
theorem wpAny_of_U {ls : List Nat} : ∀ (n : Nat) (s : Array Bool) (a : Act) (w : World), wpAnyU P md ops Q S T ls n s a w → wpAny P md ops Q n s a w
  | 0, _, _, _, h => h
  | n + 1, _, _, _, h => ⟨h.1, fun i hi => wpOp_mono (fun a' w' h' => wpAny_of_U n _ a' w' h'.2) (h.2 i hi)⟩
theorem wpAnyU_first {ls : List Nat} {i : Nat} {oi : Oper} {v : Value} (hi : ops[i]? = some oi) (hsel : ∀ (j : Nat) (o : Oper) cs b, ops[j]? = some o → o.op ≠ .select cs b)
    (hQ : ∀ c a w, Q (.panic c) (a.put oi.dst v) w → Q (.panic c) a w) (hl : lateB md ops ls i = true) :
    ∀ (fuel : Nat) (s : Array Bool) (a : Act) (w : World), Closed md ops s →
      (∀ j oj, ops[j]? = some oj → j ≠ i → s.getD j true = false → (∀ e ∈ oj.after, Region.binds md e = true → e.on ≠ i) → oi.apart ops oj = true) →
      i ∈ Region.ready md ops s → YieldsIf P ops S oi v a → S w →
      wpAnyU P md ops Q S T ls fuel (s.setIfInBounds i true) (a.put oi.dst v) w → wpAnyU P md ops Q S T ls (fuel + 1) s a w := by
  intro fuel
  induction fuel with
  | zero =>
    intro s a w _ _ hr hy hS H
    refine ⟨fun h => (by rw [h] at hr; cases hr), fun j hj => ?_⟩
    by_cases hji : j = i
    · subst hji; exact hy.wpOp hi hS ⟨⟨fun _ _ => hS, fun h => h⟩, H⟩
    · have := ready_mono hj hji
      rw [H.1] at this
      cases this
  | succ fuel ih =>
    intro s a w hcl hfree hr hy hS H
    refine ⟨fun h => (by rw [h] at hr; cases hr), fun j hj => ?_⟩
    by_cases hji : j = i
    · subst hji; exact hy.wpOp hi hS ⟨⟨fun _ _ => hS, fun h => h⟩, H⟩
    · have h1 := H.2 j (ready_mono hj hji)
      have hjl := not_late hcl hl hr hj
      obtain ⟨hjun, oj, hoj, hall⟩ := mem_ready.1 hj
      have hnot : ∀ e ∈ oj.after, Region.binds md e = true → e.on ≠ i := fun e he hb heq => by
        have h1 := hall e he hb
        have h0 := (mem_ready.1 hr).1
        rw [heq] at h1
        rcases Nat.lt_or_ge i s.size with h' | h'
        · simp [h'] at h0 h1; rw [h0] at h1; cases h1
        · simp [Array.getElem?_eq_none h'] at h1
      have h2 := wpOp_putIf hoj (hfree j oj hoj hji hjun hnot) (fun cs b => hsel i oi cs b hi) (fun cs b => hsel j oj cs b hoj) hQ hy h1
      have hfree' : ∀ k ok, ops[k]? = some ok → k ≠ i → (s.setIfInBounds j true).getD k true = false →
          (∀ e ∈ ok.after, Region.binds md e = true → e.on ≠ i) → oi.apart ops ok = true := fun k ok hk hki hun hno => by
        refine hfree k ok hk hki ?_ hno
        by_cases hjk : j = k
        · subst hjk; exact hjun
        · rw [getD_set_ne true hjk] at hun; exact hun
      refine wpOp_mono (fun a' w' h3 => ⟨⟨fun _ _ => h3.2.1.1 hjl hS, h3.2.1.2⟩, ih (s.setIfInBounds j true) a' w' (hcl.set hj) hfree' (ready_mono hr (Ne.symm hji)) h3.1 (h3.2.1.1 hjl hS) ?_⟩) h2
      rw [Array.setIfInBounds_comm _ _ hji]
      exact h3.2.2
/-- what answers alike in whatever world may come up anywhere -/
theorem wpAnyU_pure {ls : List Nat} {i : Nat} {oi : Oper} {v : Value} (hi : ops[i]? = some oi) (hsel : ∀ (j : Nat) (o : Oper) cs b, ops[j]? = some o → o.op ≠ .select cs b)
    (hQ : ∀ c a w, Q (.panic c) (a.put oi.dst v) w → Q (.panic c) a w) :
    ∀ (fuel : Nat) (s : Array Bool) (a : Act) (w : World), 
      (∀ j oj, ops[j]? = some oj → j ≠ i → s.getD j true = false → (∀ e ∈ oj.after, Region.binds md e = true → e.on ≠ i) → oi.apart ops oj = true) →
      i ∈ Region.ready md ops s → YieldsIf P ops T oi v a → T w →
      wpAnyU P md ops Q S T ls fuel (s.setIfInBounds i true) (a.put oi.dst v) w → wpAnyU P md ops Q S T ls (fuel + 1) s a w := by
  intro fuel
  induction fuel with
  | zero =>
    intro s a w _ hr hy hT H
    refine ⟨fun h => (by rw [h] at hr; cases hr), fun j hj => ?_⟩
    by_cases hji : j = i
    · subst hji; exact hy.wpOp hi hT ⟨⟨fun _ h => h, fun h => h⟩, H⟩
    · have := ready_mono hj hji
      rw [H.1] at this
      cases this
  | succ fuel ih =>
    intro s a w hfree hr hy hT H
    refine ⟨fun h => (by rw [h] at hr; cases hr), fun j hj => ?_⟩
    by_cases hji : j = i
    · subst hji; exact hy.wpOp hi hT ⟨⟨fun _ h => h, fun h => h⟩, H⟩
    · have h1 := H.2 j (ready_mono hj hji)
      obtain ⟨hjun, oj, hoj, hall⟩ := mem_ready.1 hj
      have hnot : ∀ e ∈ oj.after, Region.binds md e = true → e.on ≠ i := fun e he hb heq => by
        have h1 := hall e he hb
        have h0 := (mem_ready.1 hr).1
        rw [heq] at h1
        rcases Nat.lt_or_ge i s.size with h' | h'
        · simp [h'] at h0 h1; rw [h0] at h1; cases h1
        · simp [Array.getElem?_eq_none h'] at h1
      have h2 := wpOp_putIf hoj (hfree j oj hoj hji hjun hnot) (fun cs b => hsel i oi cs b hi) (fun cs b => hsel j oj cs b hoj) hQ hy h1
      have hfree' : ∀ k ok, ops[k]? = some ok → k ≠ i → (s.setIfInBounds j true).getD k true = false →
          (∀ e ∈ ok.after, Region.binds md e = true → e.on ≠ i) → oi.apart ops ok = true := fun k ok hk hki hun hno => by
        refine hfree k ok hk hki ?_ hno
        by_cases hjk : j = k
        · subst hjk; exact hjun
        · rw [getD_set_ne true hjk] at hun; exact hun
      refine wpOp_mono (fun a' w' h3 => ⟨h3.2.1, ih (s.setIfInBounds j true) a' w' hfree' (ready_mono hr (Ne.symm hji)) h3.1 (h3.2.1.2 hT) ?_⟩) h2
      rw [Array.setIfInBounds_comm _ _ hji]
      exact h3.2.2
def wpU (P : Program) (ops : Array Oper) (Q : Exit → Act → World → Prop) (w0 : World) (T : World → Prop) : List (Oper × Bool × Bool × Bool) → Act → World → Prop
  | [], a, w => Q .normal a w
  | (o, b, l, p) :: r, a, w => if Region.wanted o (yielded ops a.tmps) then
      (if b then (if p then o.quiet P a T (fun a' => wpU P ops Q w0 T r a' w) else o.quiet P a (fun w' => ∃ p : Regrown, w' = Go.Sort.grow (redrawn w0 p.d) p.os) (fun a' => wpU P ops Q w0 T r a' w)) else o.wp P a w (fun a' w' => ((l = false → Ext w0 w') ∧ T w') ∧ wpU P ops Q w0 T r a' w') Q)
    else wpU P ops Q w0 T r (a.put o.dst undef) w
theorem wpU_nil {w0 w : World} {a : Act} (h : Q .normal a w) : wpU P ops Q w0 T [] a w := h
theorem wpU_skip {w0 w : World} {a : Act} {o : Oper} {b l p : Bool} {r : List (Oper × Bool × Bool × Bool)} (hw : Region.wanted o (yielded ops a.tmps) = false) (h : wpU P ops Q w0 T r (a.put o.dst undef) w) : wpU P ops Q w0 T ((o, b, l, p) :: r) a w := by
  unfold wpU; rw [if_neg (by rw [hw]; decide)]; exact h
theorem wpU_val {w0 w : World} {a : Act} {o : Oper} {l : Bool} {r : List (Oper × Bool × Bool × Bool)} (hw : Region.wanted o (yielded ops a.tmps) = true)
    (h : ∀ K : Act → Prop, (∀ a', wpU P ops Q w0 T r a' w → K a') → o.quiet P a (fun w' => ∃ p : Regrown, w' = Go.Sort.grow (redrawn w0 p.d) p.os) K) : wpU P ops Q w0 T ((o, true, l, false) :: r) a w := by
  unfold wpU; rw [if_pos hw, if_pos rfl, if_neg (by decide)]; exact h _ fun _ h => h
theorem wpU_pure {w0 w : World} {a : Act} {o : Oper} {l : Bool} {r : List (Oper × Bool × Bool × Bool)} (hw : Region.wanted o (yielded ops a.tmps) = true)
    (h : ∀ K : Act → Prop, (∀ a', wpU P ops Q w0 T r a' w → K a') → o.quiet P a T K) : wpU P ops Q w0 T ((o, true, l, true) :: r) a w := by
  unfold wpU; rw [if_pos hw, if_pos rfl, if_pos rfl]; exact h _ fun _ h => h
theorem wpU_do {w0 w : World} {a : Act} {o : Oper} {p : Bool} {r : List (Oper × Bool × Bool × Bool)} (hw : Region.wanted o (yielded ops a.tmps) = true)
    (h : ∀ K : Act → World → Prop, (∀ a' w', Ext w0 w' → T w' → wpU P ops Q w0 T r a' w' → K a' w') → o.wp P a w K Q) : wpU P ops Q w0 T ((o, false, false, p) :: r) a w := by
  unfold wpU; rw [if_pos hw, if_neg (by decide)]; exact h _ fun _ _ h1 h3 h2 => ⟨⟨fun _ => h1, h3⟩, h2⟩
theorem quiet_T {o : Oper} {a : Act} {K : Act → Prop} (hv : valOp o.op = true) (h : o.quiet P a (fun _ => True) K) : o.quiet P a T K := by
  obtain ⟨v, hq, hK⟩ := h
  refine ⟨v, fun w _ => ?_, hK⟩
  have h1 := hq w trivial
  unfold Oper.quietAt at h1 ⊢
  cases hr : (execOp a.eval o).run P w with
  | halt x w2 => rw [hr] at h1; exact h1.elim
  | ok nx w2 =>
    obtain ⟨u, rfl⟩ := valOp_value hv hr
    rw [hr] at h1
    exact h1
/-- what answers alike in all worlds -/
theorem wpU_any {w0 w : World} {a : Act} {o : Oper} {l : Bool} {r : List (Oper × Bool × Bool × Bool)} (hw : Region.wanted o (yielded ops a.tmps) = true) (hv : valOp o.op = true)
    (h : ∀ K : Act → Prop, (∀ a', wpU P ops Q w0 T r a' w → K a') → o.quiet P a (fun _ => True) K) : wpU P ops Q w0 T ((o, true, l, true) :: r) a w :=
  wpU_pure hw fun K hK => quiet_T hv (h K hK)
/-- a late one -/
theorem wpU_late {w0 w : World} {a : Act} {o : Oper} {p : Bool} {r : List (Oper × Bool × Bool × Bool)} (hw : Region.wanted o (yielded ops a.tmps) = true)
    (h : ∀ K : Act → World → Prop, (∀ a' w', T w' → wpU P ops Q w0 T r a' w' → K a' w') → o.wp P a w K Q) : wpU P ops Q w0 T ((o, false, true, p) :: r) a w := by
  unfold wpU; rw [if_pos hw, if_neg (by decide)]; exact h _ fun _ _ h3 h2 => ⟨⟨fun h => (by cases h), h3⟩, h2⟩
theorem pllU {ls ps : List Nat} {w0 : World} (hsel : Region.noSelect ops = true) (hQ : ∀ c a x v w, Q (.panic c) (Act.put a (some x) v) w → Q (.panic c) a w) :
    ∀ (hs : List (Nat × Bool)) (s : Array Bool) (a : Act) (w : World), planL md ops ls ps hs s = true → Closed md ops s → (hs.all (tailL ls ps) = false → Ext w0 w) → T w →
      wpU P ops Q w0 T (hs.filterMap fun x => (ops[x.1]?).map fun o => (o, x.2, ls.contains x.1, ps.contains x.1)) a w → wpAnyU P md ops Q (Ext w0) T ls hs.length s a w := by
  have hsel' := Region.noSelect_spec hsel
  have hQ' : ∀ c a x v w, Q (.panic c) (Act.put a x v) w → Q (.panic c) a w := fun c a x v w h => by
    cases x with
    | none => exact h
    | some x => exact hQ c a x v w h
  intro hs
  induction hs with
  | nil => intro s a w hB _ _ _ H; exact ⟨by simpa [planL] using hB, H⟩
  | cons x r ih =>
    obtain ⟨i, b⟩ := x
    intro s a w hB hcl he hT H
    unfold planL at hB
    cases hi : ops[i]? with
    | none => rw [hi] at hB; simp at hB
    | some oi =>
      rw [hi] at hB
      simp only [Bool.and_eq_true] at hB
      obtain ⟨⟨hri, hc⟩, hrest⟩ := hB
      have hri' : i ∈ Region.ready md ops s := by simpa using hri
      have hlist : ((i, b) :: r).filterMap (fun x => (ops[x.1]?).map fun o => (o, x.2, ls.contains x.1, ps.contains x.1)) = (oi, b, ls.contains i, ps.contains i) :: r.filterMap (fun x => (ops[x.1]?).map fun o => (o, x.2, ls.contains x.1, ps.contains x.1)) := by simp [hi]
      rw [hlist] at H
      unfold wpU at H
      cases b with
      | true =>
        simp only [if_true, Bool.and_eq_true, Bool.or_eq_true, Bool.not_eq_true'] at hc H
        obtain ⟨⟨hv, hf⟩, hwt⟩ := hc
        cases hp : ps.contains i with
        | true =>
          rw [hp] at H
          simp only [if_true] at H
          have main : ∃ v, YieldsIf P ops T oi v a ∧ wpU P ops Q w0 T (r.filterMap fun x => (ops[x.1]?).map fun o => (o, x.2, ls.contains x.1, ps.contains x.1)) (a.put oi.dst v) w := by
            by_cases hw : Region.wanted oi (yielded ops a.tmps) = true
            · rw [if_pos hw] at H
              obtain ⟨u, hu, hG⟩ := H
              refine ⟨u, .inl ⟨hw, fun w1 he => ?_⟩, hG⟩
              have h1 := hu w1 he
              unfold Oper.quietAt at h1
              cases hr : (execOp a.eval oi).run P w1 with
              | halt x w2 => rw [hr] at h1; exact h1.elim
              | ok nx w2 =>
                obtain ⟨u', rfl⟩ := valOp_value hv hr
                rw [hr] at h1
                simp only [Oper.quietUpon] at h1
                rw [h1.1, h1.2]
            · rw [if_neg hw] at H
              exact ⟨undef, .inr ⟨by simpa using hw, rfl⟩, H⟩
          obtain ⟨v, hy, hG⟩ := main
          exact wpAnyU_pure hi hsel' (fun c a w h => hQ' c a _ _ w h) _ _ _ _ (Region.free_spec hi hf) hri' hy hT (ih _ _ w hrest (hcl.set hri') (fun h => he (by rw [List.all_cons, h, Bool.and_false])) hT hG)
        | false =>
          rw [hp] at H hwt
          simp only [if_false, Bool.false_eq_true, false_or] at H hwt
          obtain ⟨hwt, hnl⟩ := hwt
          have he0 : Ext w0 w := he (by rw [List.all_cons]; unfold tailL; simp only [if_true, hp, Bool.false_and])
          have main : ∃ v, YieldsIf P ops (Ext w0) oi v a ∧ wpU P ops Q w0 T (r.filterMap fun x => (ops[x.1]?).map fun o => (o, x.2, ls.contains x.1, ps.contains x.1)) (a.put oi.dst v) w := by
            by_cases hw : Region.wanted oi (yielded ops a.tmps) = true
            · rw [if_pos hw] at H
              obtain ⟨u, hu, hG⟩ := H
              refine ⟨u, .inl ⟨hw, fun w1 he => ?_⟩, hG⟩
              have h1 := hu w1 (cl_of he)
              unfold Oper.quietAt at h1
              cases hr : (execOp a.eval oi).run P w1 with
              | halt x w2 => rw [hr] at h1; exact h1.elim
              | ok nx w2 =>
                obtain ⟨u', rfl⟩ := valOp_value hv hr
                rw [hr] at h1
                simp only [Oper.quietUpon] at h1
                rw [h1.1, h1.2]
            · rw [if_neg hw] at H
              exact ⟨undef, .inr ⟨by simpa using hw, rfl⟩, H⟩
          obtain ⟨v, hy, hG⟩ := main
          exact wpAnyU_first hi hsel' (fun c a w h => hQ' c a _ _ w h) hwt _ _ _ _ hcl (Region.free_spec hi hf) hri' hy he0 (ih _ _ w hrest (hcl.set hri') (fun _ => he0) hT hG)
      | false =>
        simp only [if_false, Bool.false_eq_true, Bool.and_eq_true, Bool.or_eq_true, Bool.not_eq_true'] at hc H
        obtain ⟨hc, hlast⟩ := hc
        refine ⟨fun h0 => (by rw [h0] at hri'; cases hri'), fun j hj => ?_⟩
        have hji : j = i := by simpa using all_ready hc hj
        subst hji
        have hnext : ∀ w', (ls.contains j = false → Ext w0 w') → r.all (tailL ls ps) = false → Ext w0 w' := fun w' h1 h2 => by
          rcases hlast with h | h
          · exact h1 h
          · rw [h2] at h; cases h
        unfold wpOp
        simp only [hi]
        split
        · rename_i hw
          rw [if_pos hw] at H
          exact .inl (Oper.wp_mono (fun a' w' hx => ⟨⟨fun h _ => hx.1.1 h, fun _ => hx.1.2⟩, ih _ a' w' hrest (hcl.set hri') (hnext w' hx.1.1) hx.1.2 hx.2⟩) H)
        · rename_i hw
          rw [if_neg hw] at H
          have h1 : ls.contains j = false → Ext w0 w := fun h => he (by rw [List.all_cons]; unfold tailL; simp only [h, if_false, Bool.false_eq_true, Bool.false_and])
          exact ⟨⟨fun _ h => h, fun h => h⟩, ih _ _ w hrest (hcl.set hri') (hnext w h1) hT H⟩
theorem wp_region_lateT {id : Nat} {a : Act} {w : World} {L : List Oper} (T : World → Prop) (ls ps : List Nat) (hs : List (Nat × Bool))
    (hT : T w.drew) (hm : P.follows .mixedOrders = true) (hsel : Region.noSelect L.toArray = true)
    (hQ : ∀ c a x v w, Q (.panic c) (Act.put a (some x) v) w → Q (.panic c) a w)
    (hB : planL .any L.toArray ls ps hs (Array.replicate L.toArray.size false) = true) (hn : L.length = hs.length)
    (h : wpU P L.toArray Q w T (hs.filterMap fun x => (L.toArray[x.1]?).map fun o => (o, x.2, ls.contains x.1, ps.contains x.1)) a w.drew) : (Code.region id L.toArray true).wp P Q a w := by
  have := pllU (T := T) (P := P) (ops := L.toArray) (md := .any) (Q := Q) (w0 := w) (ls := ls) (ps := ps) hsel hQ hs _ a w.drew hB (closed_new _) (fun _ => (ext_refl w).draw) hT h
  refine wp_region_any hm (wpAny_of_U (S := Ext w) (T := T) (ls := ls) _ _ _ _ ?_)
  have e : L.toArray.size = hs.length := by simpa using hn
  rw [e]
  rw [e] at this
  exact this
end
end Hy
end
section
namespace Hy
open Go Go.RowKit
section
variable {P : Program} {ops : Array Oper} {md : Region.Mode} {Q : Exit → Act → World → Prop}
inductive TrV where
  | nil
  | one (o : Oper) (b l p : Bool) (t : TrV)
  | two (o q : Oper) (t u : TrV)
def fillV (L : List Oper) (ls ps : List Nat) : Tr → TrV
  | .nil => .nil
  | .one i b t => .one (L.getD i default) b (ls.contains i) (ps.contains i) (fillV L ls ps t)
  | .two i j t u => .two (L.getD i default) (L.getD j default) (fillV L ls ps t) (fillV L ls ps u)
def tailT (ls ps : List Nat) : Tr → Bool
  | .nil => true
  | .one i b t => tailL ls ps (i, b) && tailT ls ps t
  | .two _ _ _ _ => false
def planV (md : Region.Mode) (ops : Array Oper) (ls ps : List Nat) : Tr → Array Bool → Bool
  | .nil, s => (Region.ready md ops s).isEmpty
  | .one i b t, s =>
    (match ops[i]? with
     | none => false
     | some oi => (Region.ready md ops s).contains i &&
        (if b then valOp oi.op && Region.free md ops s i && (ps.contains i || lateB md ops ls i && !ls.contains i) else (Region.ready md ops s).all (· == i) && (!ls.contains i || tailT ls ps t))) && planV md ops ls ps t (s.setIfInBounds i true)
  | .two i j t u, s => (ops[i]?).isSome && (ops[j]?).isSome && (Region.ready md ops s).contains i && (Region.ready md ops s).contains j && (Region.ready md ops s).all (fun k => k == i || k == j) && (t.len == u.len) && !ls.contains i && !ls.contains j &&
      planV md ops ls ps t (s.setIfInBounds i true) && planV md ops ls ps u (s.setIfInBounds j true)
def wpV (P : Program) (ops : Array Oper) (Q : Exit → Act → World → Prop) (w0 : World) : TrV → Act → World → Prop
  | .nil, a, w => Q .normal a w
  | .one o b l p r, a, w => if Region.wanted o (yielded ops a.tmps) then
      (if b then (if p then o.quiet P a (fun _ => True) (fun a' => wpV P ops Q w0 r a' w) else o.quiet P a (fun w' => ∃ p : Regrown, w' = Go.Sort.grow (redrawn w0 p.d) p.os) (fun a' => wpV P ops Q w0 r a' w)) else o.wp P a w (fun a' w' => (l = false → Ext w0 w') ∧ wpV P ops Q w0 r a' w') Q)
    else wpV P ops Q w0 r (a.put o.dst undef) w
  | .two o q r u, a, w => (if Region.wanted o (yielded ops a.tmps) then o.wp P a w (fun a' w' => Ext w0 w' ∧ wpV P ops Q w0 r a' w') Q else wpV P ops Q w0 r (a.put o.dst undef) w) ∧
      (if Region.wanted q (yielded ops a.tmps) then q.wp P a w (fun a' w' => Ext w0 w' ∧ wpV P ops Q w0 u a' w') Q else wpV P ops Q w0 u (a.put q.dst undef) w)
theorem wpV_nil {w0 w : World} {a : Act} (h : Q .normal a w) : wpV P ops Q w0 .nil a w := h
theorem wpV_val {w0 w : World} {a : Act} {o : Oper} {l : Bool} {r : TrV} (hw : Region.wanted o (yielded ops a.tmps) = true)
    (h : ∀ K : Act → Prop, (∀ a', wpV P ops Q w0 r a' w → K a') → o.quiet P a (fun w' => ∃ p : Regrown, w' = Go.Sort.grow (redrawn w0 p.d) p.os) K) : wpV P ops Q w0 (.one o true l false r) a w := by
  unfold wpV; rw [if_pos hw, if_pos rfl, if_neg (by decide)]; exact h _ fun _ h => h
theorem wpV_pure {w0 w : World} {a : Act} {o : Oper} {l : Bool} {r : TrV} (hw : Region.wanted o (yielded ops a.tmps) = true)
    (h : ∀ K : Act → Prop, (∀ a', wpV P ops Q w0 r a' w → K a') → o.quiet P a (fun _ => True) K) : wpV P ops Q w0 (.one o true l true r) a w := by
  unfold wpV; rw [if_pos hw, if_pos rfl, if_pos rfl]; exact h _ fun _ h => h
theorem wpV_do {w0 w : World} {a : Act} {o : Oper} {p : Bool} {r : TrV} (hw : Region.wanted o (yielded ops a.tmps) = true)
    (h : ∀ K : Act → World → Prop, (∀ a' w', Ext w0 w' → wpV P ops Q w0 r a' w' → K a' w') → o.wp P a w K Q) : wpV P ops Q w0 (.one o false false p r) a w := by
  unfold wpV; rw [if_pos hw, if_neg (by decide)]; exact h _ fun _ _ h1 h2 => ⟨fun _ => h1, h2⟩
/-- a late one -/
theorem wpV_late {w0 w : World} {a : Act} {o : Oper} {p : Bool} {r : TrV} (hw : Region.wanted o (yielded ops a.tmps) = true)
    (h : ∀ K : Act → World → Prop, (∀ a' w', wpV P ops Q w0 r a' w' → K a' w') → o.wp P a w K Q) : wpV P ops Q w0 (.one o false true p r) a w := by
  unfold wpV; rw [if_pos hw, if_neg (by decide)]; exact h _ fun _ _ h2 => ⟨fun h => (by cases h), h2⟩
theorem wpV_two {w0 w : World} {a : Act} {o q : Oper} {r u : TrV} (h1 : wpV P ops Q w0 (.one o false false false r) a w) (h2 : wpV P ops Q w0 (.one q false false false u) a w) : wpV P ops Q w0 (.two o q r u) a w := by
  have e : ∀ (o : Oper) (r : TrV), wpV P ops Q w0 (.one o false false false r) a w → (if Region.wanted o (yielded ops a.tmps) then o.wp P a w (fun a' w' => Ext w0 w' ∧ wpV P ops Q w0 r a' w') Q else wpV P ops Q w0 r (a.put o.dst undef) w) := fun o r h => by
    unfold wpV at h
    split
    · rename_i hw
      rw [if_pos hw, if_neg (by decide)] at h
      exact Oper.wp_mono (fun a' w' hx => ⟨hx.1 rfl, hx.2⟩) h
    · rename_i hw
      rw [if_neg hw] at h
      exact h
  exact ⟨e o r h1, e q u h2⟩
theorem pllV {ls ps : List Nat} {w0 : World} {L : List Oper} (hsel : Region.noSelect L.toArray = true) (hQ : ∀ c a x v w, Q (.panic c) (Act.put a (some x) v) w → Q (.panic c) a w) :
    ∀ (t : Tr) (s : Array Bool) (a : Act) (w : World), planV md L.toArray ls ps t s = true → Closed md L.toArray s → (tailT ls ps t = false → Ext w0 w) →
      wpV P L.toArray Q w0 (fillV L ls ps t) a w → wpAnyL P md L.toArray Q (Ext w0) ls t.len s a w := by
  have hsel' := Region.noSelect_spec hsel
  have hQ' : ∀ c a x v w, Q (.panic c) (Act.put a x v) w → Q (.panic c) a w := fun c a x v w h => by
    cases x with
    | none => exact h
    | some x => exact hQ c a x v w h
  intro t
  induction t with
  | nil => intro s a w hB _ _ H; exact ⟨by simpa [planV] using hB, H⟩
  | one i b r ih =>
    intro s a w hB hcl he H
    unfold planV at hB
    cases hi : L.toArray[i]? with
    | none => rw [hi] at hB; simp at hB
    | some oi =>
      rw [hi] at hB
      simp only [Bool.and_eq_true] at hB
      obtain ⟨⟨hri, hc⟩, hrest⟩ := hB
      have hri' : i ∈ Region.ready md L.toArray s := by simpa using hri
      unfold fillV at H
      rw [getD_of hi] at H
      unfold wpV at H
      cases b with
      | true =>
        simp only [if_true, Bool.and_eq_true, Bool.or_eq_true, Bool.not_eq_true'] at hc H
        obtain ⟨⟨hv, hf⟩, hwt⟩ := hc
        cases hp : ps.contains i with
        | true =>
          rw [hp] at H
          simp only [if_true] at H
          have main : ∃ v, YieldsIf P L.toArray (fun _ => True) oi v a ∧ wpV P L.toArray Q w0 (fillV L ls ps r) (a.put oi.dst v) w := by
            by_cases hw : Region.wanted oi (yielded L.toArray a.tmps) = true
            · rw [if_pos hw] at H
              obtain ⟨u, hu, hG⟩ := H
              refine ⟨u, .inl ⟨hw, fun w1 he => ?_⟩, hG⟩
              have h1 := hu w1 he
              unfold Oper.quietAt at h1
              cases hr : (execOp a.eval oi).run P w1 with
              | halt x w2 => rw [hr] at h1; exact h1.elim
              | ok nx w2 =>
                obtain ⟨u', rfl⟩ := valOp_value hv hr
                rw [hr] at h1
                simp only [Oper.quietUpon] at h1
                rw [h1.1, h1.2]
            · rw [if_neg hw] at H
              exact ⟨undef, .inr ⟨by simpa using hw, rfl⟩, H⟩
          obtain ⟨v, hy, hG⟩ := main
          exact wpAnyL_pure hi hsel' (fun c a w h => hQ' c a _ _ w h) _ _ _ _ (Region.free_spec hi hf) hri' hy (ih _ _ w hrest (hcl.set hri') (fun h => he (by unfold tailT; rw [h, Bool.and_false])) hG)
        | false =>
          rw [hp] at H hwt
          simp only [if_false, Bool.false_eq_true, false_or] at H hwt
          obtain ⟨hwt, hnl⟩ := hwt
          have he0 : Ext w0 w := he (by unfold tailT tailL; simp only [if_true, hp, Bool.false_and])
          have main : ∃ v, YieldsIf P L.toArray (Ext w0) oi v a ∧ wpV P L.toArray Q w0 (fillV L ls ps r) (a.put oi.dst v) w := by
            by_cases hw : Region.wanted oi (yielded L.toArray a.tmps) = true
            · rw [if_pos hw] at H
              obtain ⟨u, hu, hG⟩ := H
              refine ⟨u, .inl ⟨hw, fun w1 he => ?_⟩, hG⟩
              have h1 := hu w1 (cl_of he)
              unfold Oper.quietAt at h1
              cases hr : (execOp a.eval oi).run P w1 with
              | halt x w2 => rw [hr] at h1; exact h1.elim
              | ok nx w2 =>
                obtain ⟨u', rfl⟩ := valOp_value hv hr
                rw [hr] at h1
                simp only [Oper.quietUpon] at h1
                rw [h1.1, h1.2]
            · rw [if_neg hw] at H
              exact ⟨undef, .inr ⟨by simpa using hw, rfl⟩, H⟩
          obtain ⟨v, hy, hG⟩ := main
          exact wpAnyL_first hi hsel' (fun c a w h => hQ' c a _ _ w h) hwt _ _ _ _ hcl (Region.free_spec hi hf) hri' hy he0 (ih _ _ w hrest (hcl.set hri') (fun _ => he0) hG)
      | false =>
        simp only [if_false, Bool.false_eq_true, Bool.and_eq_true, Bool.or_eq_true, Bool.not_eq_true'] at hc H
        obtain ⟨hc, hlast⟩ := hc
        refine ⟨fun h0 => (by rw [h0] at hri'; cases hri'), fun j hj => ?_⟩
        have hji : j = i := by simpa using all_ready hc hj
        subst hji
        have hnext : ∀ w', (ls.contains j = false → Ext w0 w') → tailT ls ps r = false → Ext w0 w' := fun w' h1 h2 => by
          rcases hlast with h | h
          · exact h1 h
          · rw [h2] at h; cases h
        unfold wpOp
        simp only [hi]
        split
        · rename_i hw
          rw [if_pos hw] at H
          exact .inl (Oper.wp_mono (fun a' w' hx => ⟨fun h _ => hx.1 h, ih _ a' w' hrest (hcl.set hri') (hnext w' hx.1) hx.2⟩) H)
        · rename_i hw
          rw [if_neg hw] at H
          have h1 : ls.contains j = false → Ext w0 w := fun h => he (by unfold tailT tailL; simp only [h, if_false, Bool.false_eq_true, Bool.false_and])
          exact ⟨fun _ h => h, ih _ _ w hrest (hcl.set hri') (hnext w h1) H⟩
  | two i j r q ih1 ih2 =>
    intro s a w hB hcl he H
    simp only [planV, Bool.and_eq_true, beq_iff_eq, Bool.not_eq_true'] at hB
    obtain ⟨⟨⟨⟨⟨⟨⟨⟨⟨hsi, hsj⟩, hri⟩, hrj⟩, hall⟩, hlen⟩, hl1⟩, hl2⟩, hr1⟩, hr2⟩ := hB
    obtain ⟨oi, hi⟩ := Option.isSome_iff_exists.1 hsi
    obtain ⟨oj, hj⟩ := Option.isSome_iff_exists.1 hsj
    have hri' : i ∈ Region.ready md L.toArray s := by simpa using hri
    have hrj' : j ∈ Region.ready md L.toArray s := by simpa using hrj
    have he0 : Ext w0 w := he rfl
    unfold fillV at H
    rw [getD_of hi, getD_of hj] at H
    unfold wpV at H
    obtain ⟨H1, H2⟩ := H
    refine ⟨fun h0 => (by rw [h0] at hri'; cases hri'), fun k hk => ?_⟩
    have hk' := all_ready hall hk
    simp only [Bool.or_eq_true, beq_iff_eq] at hk'
    rcases hk' with rfl | rfl
    · unfold wpOp
      simp only [hi]
      split
      · rename_i hw
        rw [if_pos hw] at H1
        exact .inl (Oper.wp_mono (fun a' w' hx => ⟨fun _ _ => hx.1, ih1 _ a' w' hr1 (hcl.set hri') (fun _ => hx.1) hx.2⟩) H1)
      · rename_i hw
        rw [if_neg hw] at H1
        exact ⟨fun _ h => h, ih1 _ _ w hr1 (hcl.set hri') (fun _ => he0) H1⟩
    · unfold wpOp
      simp only [hj]
      split
      · rename_i hw
        rw [if_pos hw] at H2
        exact .inl (Oper.wp_mono (fun a' w' hx => ⟨fun _ _ => hx.1, hlen ▸ ih2 _ a' w' hr2 (hcl.set hrj') (fun _ => hx.1) hx.2⟩) H2)
      · rename_i hw
        rw [if_neg hw] at H2
        exact ⟨fun _ h => h, hlen ▸ ih2 _ _ w hr2 (hcl.set hrj') (fun _ => he0) H2⟩
theorem wp_region_ltree {id : Nat} {a : Act} {w : World} {L : List Oper} (ls ps : List Nat) (t : Tr)
    (hm : P.follows .mixedOrders = true) (hsel : Region.noSelect L.toArray = true)
    (hQ : ∀ c a x v w, Q (.panic c) (Act.put a (some x) v) w → Q (.panic c) a w)
    (hB : planV .any L.toArray ls ps t (Array.replicate L.toArray.size false) = true) (hn : L.length = t.len)
    (h : wpV P L.toArray Q w (fillV L ls ps t) a w.drew) : (Code.region id L.toArray true).wp P Q a w := by
  have := pllV (P := P) (md := .any) (Q := Q) (w0 := w) (ls := ls) (ps := ps) hsel hQ t _ a w.drew hB (closed_new _) (fun _ => (ext_refl w).draw) h
  refine wp_region_any hm (wpAny_of_L (S := Ext w) (ls := ls) _ _ _ _ ?_)
  have e : L.toArray.size = t.len := by simpa using hn
  rw [e]
  rw [e] at this
  exact this
end
end Hy
end
