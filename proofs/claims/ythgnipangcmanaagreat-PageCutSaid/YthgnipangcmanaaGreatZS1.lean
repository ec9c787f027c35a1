/- Texts of this claim, put together: walks and plain laws. -/
import Derived.Test.YthgnipangcmanaaGreatZG1
import Derived.ProofKit
import Derived.OpenShut
import Derived.JoinedCond
import Derived.SizedLaws
import Derived.Deep.CondSized
import Derived.Deep.Slices
import Derived.Deep.Fields
import Derived.Lib.SmallJoins
section
section
namespace Hy
open Go Go.RowKit Go.ChangeShapes Go.WideShapes Go.ChangeAt
section
variable {H : Type} {enc : TypeId × Value → H} {P : Program}
theorem trodAll_stays (hl : laidOutB P = true) {W W' : World} (hb : Ext W W') {sp : Nat → Bool} : ∀ {ts : List TypeId} {vs : List Value} {ds : List (DataW H)} {ps : List MemPlace},
    (ts.all fun t => P.readableRec t && decide (t < P.types.size)) = true → DataW.TrodAll enc P W 0 (fun _ => true) true ts vs ds ps → (∀ x ∈ ps, x.block < W.heap.size) → (∀ x ∈ ps, sp x.block = true) → DataW.TrodAll enc P W' 0 sp true ts vs ds ps
  | [], vs, ds, ps, _, h, _, _ => by obtain ⟨rfl, rfl, rfl⟩ := trodAll_nil h; exact trodAll_mk0
  | t :: ts, vs, ds, ps, hr, h, hlt, hsp => by
    obtain ⟨v, vs', d, ds', p, q, rfl, rfl, rfl, h1, h2⟩ := trodAll_cons h
    simp only [List.all_cons, Bool.and_eq_true, decide_eq_true_eq] at hr
    exact trodAll_cons_mk
      (WideElems.Trod_stays hl hr.1.1 hr.1.2 h1 (fun x hx => hb.same (hlt x (List.mem_append.2 (.inl hx)))) (fun x hx => hsp x (List.mem_append.2 (.inl hx))))
      (trodAll_stays hl hb hr.2 h2 (fun x hx => hlt x (List.mem_append.2 (.inr hx))) (fun x hx => hsp x (List.mem_append.2 (.inr hx))))
theorem law_post {f : Func} {s : ChangeSpec} {W W' : World} {args : Array Value} {ds : List (DataW H)} {before : List MemPlace} {tb : TypeId}
    (hl : laidOutB P = true) (hr : (f.params.toList.all fun t => P.readableRec t && decide (t < P.types.size)) = true) (hv : s.vars = [])
    (hW : DataW.Whole enc P f.params.toList s.vars false W args.toList ds [] before) (hb : Ext W W')
    (hres : f.resultTypes = #[tb]) (htb : P.underlying tb = some .bool) (hfn : s.fn H (ds ++ []) = { results := [.lit (.bool true)], args := ds, vars := [] }) :
    s.post enc P f false true false false W args (.bool true) W' := by
  have hW' := hW
  obtain ⟨p, q, hA, hV, rfl, _, _⟩ := hW
  rw [hv] at hV
  obtain ⟨_, rfl⟩ := trodVars_none hV
  have hlt : ∀ x ∈ p, x.block < W.heap.size := fun x hx => hW'.lt x (by simpa using hx)
  refine ⟨ds, [], p ++ [], [], p, [], hW', ?_, ?_, ?_, Below.frame hb _, fun h => by cases h⟩
  · rw [hfn, hres]
    exact trodAll_cons_mk (shut_bool htb true) trodAll_mk0
  · rw [hfn]
    exact trodAll_stays hl hb hr hA hlt (fun x hx => by simpa using hlt x hx)
  · rw [hfn, hv]
    rfl
end
end Hy
end
section
namespace Hy
open Go Go.RowKit Go.ChangeShapes Go.WideShapes Go.ChangeAt
theorem add_mk (a : Addr) (h : a.spot = none) (i : Nat) : a.add i = ⟨a.block, a.off + i, none⟩ := by
  obtain ⟨b, o, sp⟩ := a
  simp only at h
  subst h
  exact add_none b o i
theorem spot_none {w : World} {a : Addr} {i : Nat} {v : Value} (h : w.cell? (a.add i) = some v) : i = 0 → a.spot = none := by
  rintro rfl
  have e : a.add 0 = a := by unfold Addr.add; simp
  rw [e] at h
  unfold World.cell? at h
  split at h
  · split at h
    · cases h
    · rename_i hs; cases hh : a.spot with
      | none => rfl
      | some x => rw [hh] at hs; simp at hs
  · cases h
end Hy
end
section
namespace Hy
open Go Go.RowKit Go.ChangeShapes Go.WideShapes Go.ChangeAt Go.Deep Go.Joins
theorem list_of {α : Type} (n : Nat) (p : Nat → α → Prop) (h : ∀ i, i < n → ∃ c, p i c) : ∃ l : List α, l.length = n ∧ ∀ i (hi : i < l.length), p i l[i] := by
  induction n with
  | zero => exact ⟨[], rfl, fun i hi => absurd hi (by simp)⟩
  | succ n ih =>
    obtain ⟨l, hl, hp⟩ := ih fun i hi => h i (by omega)
    obtain ⟨c, hc⟩ := h n (by omega)
    refine ⟨l ++ [c], by simp [hl], fun i hi => ?_⟩
    by_cases hin : i < l.length
    · rw [List.getElem_append_left hin]; exact hp i hin
    · have e : i = l.length := by simp at hi; omega
      subst e
      rw [List.getElem_append_right (Nat.le_refl _)]
      simp only [Nat.sub_self, List.getElem_cons_zero]
      rw [hl]; exact hc
section
variable {H : Type} {enc : TypeId × Value → H} {P : Program} {w : World} {base : Nat} {spare : Nat → Bool} {held : Bool}
def IsList (d : DataW H) (D : List (DataW H)) : Prop := (d = .nil ∧ D = []) ∨ ∃ sp : List (DataW H), d = .slice D sp
theorem open_list {α : Type} {f : α → List Value} {m : Nat} (hf : ∀ x, (f x).length = m) (hm0 : 0 < m) {g : α → DataW H} {ok : α → Prop} {t e : TypeId} (ht : P.underlying t = some (.slice e)) (hC : P.cellsOf e = m)
    (hread : ∀ (fuel : Nat) (cs : List Value) (x : DataW H × List MemPlace), cs.length = m → DataW.trod enc P w base spare held fuel e cs = some x → ∃ c, cs = f c ∧ x.1 = g c ∧ ok c)
    {r : Reach} {b0 : Nat} {v : Value} {d : DataW H} {ps : List MemPlace} (hv : Value.okWide P w r b0 t v) (h : DataW.Trod enc P w base spare held t v d ps) :
    ∃ (A : Option Addr) (len cap : Nat) (l : List α), v = .slice A len cap ∧ l.length = len ∧ len ≤ cap ∧ cap ≤ maxLen ∧ (A = none → len = 0) ∧ Rd w A (l.flatMap f) ∧ (∀ c ∈ l, ok c) ∧ IsList d (l.map g) := by
  obtain ⟨a0, len0, cap0, rfl⟩ := okWide_slice ht hv
  obtain ⟨fuel, hf'⟩ := h
  rcases open_slice ht hf' with ⟨hcs, hx⟩ | ⟨a, len, cap, k, n, D, Pl, hcs, hb, hl, hm, hmm, hx, hi⟩
  · simp only [Value.cells, List.cons.injEq, Value.slice.injEq, and_true] at hcs
    obtain ⟨rfl, rfl, rfl⟩ := hcs
    simp only [Prod.mk.injEq] at hx
    exact ⟨none, 0, 0, [], rfl, rfl, Nat.le_refl _, Nat.zero_le _, fun _ => rfl, fun hp => absurd hp (by simp), fun c hc => by simp at hc, .inl ⟨hx.1, rfl⟩⟩
  · simp only [Value.cells, List.cons.injEq, Value.slice.injEq, and_true] at hcs
    obtain ⟨rfl, rfl, rfl⟩ := hcs
    simp only [Prod.mk.injEq] at hx
    have hlm : len0 ≤ k := by rw [hmm]; split <;> omega
    obtain ⟨l, hll, hp⟩ := list_of (α := α) len0 (fun i c => (∀ j u, (f c)[j]? = some u → w.cell? (a.add (i * m + j)) = some u) ∧ ok c ∧ D i = g c) (fun i hi' => by
      obtain ⟨cs', hc, htr⟩ := hi i (by omega)
      rw [hC] at hc
      obtain ⟨_, hcl, hat⟩ := World.cells?_some hc
      obtain ⟨c, rfl, hd, hok⟩ := hread _ _ _ hcl htr
      refine ⟨c, fun j u hu => ?_, hok, hd⟩
      have hj : j < m := by
        have := (List.getElem?_eq_some_iff.1 hu).1
        rw [hf] at this; exact this
      have h1 := hat j hj
      rw [Go.Deep.add_add] at h1
      rw [h1]; exact hu)
    refine ⟨some a, len0, cap0, l, rfl, hll, hl, hm, (fun h => by cases h), fun hpos => ?_, fun c hc => ?_, .inr ⟨(List.range (k - len0)).map fun j => D (len0 + j), ?_⟩⟩
    · have hl0 : 0 < l.length := by
        rw [flat_length hf] at hpos
        rcases Nat.eq_zero_or_pos l.length with h | h
        · rw [h, Nat.zero_mul] at hpos; cases hpos
        · exact h
      obtain ⟨u0, hu0⟩ : ∃ u, (f l[0])[0]? = some u := ⟨(f l[0])[0]'(by rw [hf]; exact hm0), List.getElem?_eq_getElem _⟩
      have h0 := (hp 0 hl0).1 0 _ hu0
      have hsp := spot_none h0 (by simp)
      refine ⟨a.block, a.off, ?_, ?_, fun j u hu => ?_⟩
      · obtain ⟨b, o, sp⟩ := a
        simp only at hsp
        subst hsp; rfl
      · have := block_lt_of_cell h0
        rw [add_mk a hsp] at this; exact this
      · have hj := (List.getElem?_eq_some_iff.1 hu).1
        rw [flat_length hf] at hj
        have hq : j / m < l.length := Nat.div_lt_of_lt_mul (by rw [Nat.mul_comm]; exact hj)
        have e : j = j / m * m + j % m := by rw [Nat.mul_comm]; exact (Nat.div_add_mod j m).symm
        rw [e, flat_get hf l (j / m) hq (j % m) (Nat.mod_lt _ hm0)] at hu
        have h1 := (hp (j / m) hq).1 (j % m) u hu
        rw [← e, add_mk a hsp] at h1
        exact h1
    · obtain ⟨i, hi', rfl⟩ := List.getElem_of_mem hc
      exact (hp i hi').2.1
    · rw [hx.1]
      congr 1
      apply List.ext_getElem (by simp [hll])
      intro i h1 h2
      simp only [List.getElem_map, List.getElem_range]
      exact (hp i (by simpa using h2)).2.2
theorem weightsAll_in {e : TypeId} {l : List (DataW H)} {d : DataW H} {n : Nat} (hd : d ∈ l) (hn : n ∈ d.weights P e) : n ∈ DataW.weightsAll P e l := by
  induction l with
  | nil => cases hd
  | cons x r ih =>
    simp only [DataW.weightsAll, List.mem_append]
    rcases List.mem_cons.1 hd with rfl | hr
    · exact .inl hn
    · exact .inr (ih hr)
theorem weights_list {t e : TypeId} {D : List (DataW H)} {d : DataW H} (hu : P.underlying t = some (.slice e)) (hl : IsList d D) (h : ∀ n ∈ d.weights P t, n ≤ reachBytes) :
    D.length * P.bytesOf e ≤ reachBytes ∧ ∀ x ∈ D, ∀ n ∈ x.weights P e, n ≤ reachBytes := by
  rcases hl with ⟨rfl, rfl⟩ | ⟨sp, rfl⟩
  · exact ⟨by simp, fun c hc => by cases hc⟩
  · refine ⟨?_, fun x hx n hn => ?_⟩
    · have h1 := h ((D.length + sp.length) * P.bytesOf e) (by simp [DataW.weights, hu])
      exact Nat.le_trans (Nat.mul_le_mul_right _ (by omega)) h1
    · exact h n (by
        simp only [DataW.weights, hu, List.mem_cons, List.mem_append]
        exact .inr (.inl (weightsAll_in hx hn)))
theorem weights_each {ts : List TypeId} {ds : List (DataW H)} (h : (DataW.weightsEach P ts ds).all (· ≤ reachBytes) = true) {j : Nat} {t : TypeId} {d : DataW H} (ht : ts[j]? = some t) (hd : ds[j]? = some d) : ∀ n ∈ d.weights P t, n ≤ reachBytes := fun n hn => by
  have := List.all_eq_true.1 h _ (DataW.weights_mem_each ht hd n hn)
  simpa using this
end
end Hy
end
section
namespace Hy
open Go Go.RowKit Go.ChangeShapes Go.WideShapes Go.ChangeAt Go.Deep Go.Joins
section
variable {H : Type} {enc : TypeId × Value → H} {P : Program} {w : World} {base : Nat} {spare : Nat → Bool} {held : Bool}
def datCel (c : Cel) : DataW H := .agg [.lit (.int .i64 c.1), .lit (.int .u64 (c.2.1 : Int)), .lit (.string c.2.2.data.toList)]
def okCel (c : Cel) : Prop := c.2.1 < 18446744073709551616 ∧ c.2.2.size ≤ maxLen
abbrev cel3' (c : Cel) : List Value := [.int .i64 c.1, .int .u64 (c.2.1 : Nat), .string c.2.2]
theorem read_cel {e : TypeId} {f0 f1 f2 : Field} (he : P.underlying e = some (.struct #[f0, f1, f2])) (hone : oneCellFields P #[f0, f1, f2] = true)
    (t0 : P.underlying f0.type = some (.int .i64)) (t1 : P.underlying f1.type = some (.int .u64)) (t2 : P.underlying f2.type = some .string)
    (fuel : Nat) (cs : List Value) (x : DataW H × List MemPlace) (hl : cs.length = 3) (h : DataW.trod enc P w base spare held fuel e cs = some x) :
    ∃ c : Cel, cs = cel3' c ∧ x.1 = datCel c ∧ okCel c := by
  obtain ⟨ys, n, _, hx, _, hyl, hf⟩ := DataW.trod_struct he h
  obtain ⟨o0, k0⟩ := hone_of hone 0 f0 rfl
  obtain ⟨o1, k1⟩ := hone_of hone 1 f1 rfl
  obtain ⟨o2, k2⟩ := hone_of hone 2 f2 rfl
  match cs, hl, ys, hyl with
  | [c0, c1, c2], _, [y0, y1, y2], _ =>
    have g0 := hf 0 f0 rfl
    have g1 := hf 1 f1 rfl
    have g2 := hf 2 f2 rfl
    rw [o0, k0] at g0; rw [o1, k1] at g1; rw [o2, k2] at g2
    simp only [List.drop_zero, List.drop_succ_cons, List.take_succ_cons, List.take_zero, List.getElem?_cons_zero, List.getElem?_cons_succ] at g0 g1 g2
    obtain ⟨a, ea, rfl, wa⟩ := DataW.trod_int t0 g0
    obtain ⟨b, eb, rfl, wb⟩ := DataW.trod_int t1 g1
    obtain ⟨s, es, rfl, ws⟩ := DataW.trod_string t2 g2
    simp only [List.cons.injEq, and_true] at ea eb es
    subst ea eb es
    have bb := bounds_u64 wb
    refine ⟨(a, b.toNat, s), ?_, ?_, by simp only; omega, ws⟩
    · show _ = [_, Value.int .u64 ((b.toNat : Nat) : Int), _]
      rw [show ((b.toNat : Nat) : Int) = b from by omega]
    · rw [hx]; simp only [datCel, List.map_cons, List.map_nil]; rw [show ((b.toNat : Nat) : Int) = b from by omega]
theorem cel_weight {e : TypeId} {f0 f1 f2 : Field} (he : P.underlying e = some (.struct #[f0, f1, f2])) (c : Cel) : c.2.2.size ∈ (datCel (H := H) c).weights P e := by
  simp [datCel, DataW.weights, he, DataW.weightsEach]
end
end Hy
end
end
