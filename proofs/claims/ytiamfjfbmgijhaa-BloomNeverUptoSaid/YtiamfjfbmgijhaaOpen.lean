/- Arguments opened: cells of columns, by value and in lists; four words. No program in sight. -/
import Derived.Test.YtiamfjfbmgijhaaRowk
import Derived.Test.YtiamfjfbmgijhaaBll
import Derived.Deep.Slices
import Derived.Deep.Fields
import Derived.Lib.SmallJoins
namespace Hy
open Go Go.RowKit Go.ChangeShapes Go.WideShapes Go.ChangeAt Go.Deep Go.Joins

theorem list_of {α : Type} [Inhabited α] (n : Nat) (p : Nat → α → Prop) (h : ∀ i, i < n → ∃ c, p i c) : ∃ l : List α, l.length = n ∧ ∀ i (hi : i < l.length), p i l[i] := by
  induction n with
  | zero => exact ⟨[], rfl, fun i hi => absurd hi (by simp)⟩
  | succ n ih =>
    obtain ⟨l, hl, hp⟩ := ih fun i hi => h i (by omega)
    obtain ⟨c, hc⟩ := h n (by omega)
    refine ⟨l ++ [c], by simp [hl], fun i hi => ?_⟩
    by_cases hin : i < l.length
    · rw [List.getElem_append_left hin]; exact hp i hin
    · have e : i = l.length := by simp at hi; omega
      subst e
      rw [List.getElem_append_right (Nat.le_refl _)]
      simp only [Nat.sub_self, List.getElem_cons_zero]
      rw [hl]; exact hc

instance : Inhabited C := ⟨⟨0, 0, .empty⟩⟩
section
variable {H : Type} {enc : TypeId × Value → H} {P : Program} {w : World} {base : Nat} {spare : Nat → Bool} {held : Bool}
/-- one cell, read out of its three places -/
theorem read_cell {e : TypeId} {f0 f1 f2 : Field} (he : P.underlying e = some (.struct #[f0, f1, f2])) (hone : oneCellFields P #[f0, f1, f2] = true)
    (t0 : P.underlying f0.type = some (.int .i64)) (t1 : P.underlying f1.type = some (.int .u64)) (t2 : P.underlying f2.type = some .string)
    {fuel : Nat} {cs : List Value} {x : DataW H × List MemPlace} (hl : cs.length = 3) (h : DataW.trod enc P w base spare held fuel e cs = some x) :
    ∃ c : C, cs = c.cells ∧ x = (.agg [.lit (.int .i64 c.k), .lit (.int .u64 c.n), .lit (.string c.s.data.toList)], []) ∧ -9223372036854775808 ≤ c.k ∧ c.k ≤ 9223372036854775807 ∧ c.n < 18446744073709551616 ∧ c.s.size ≤ maxLen := by
  obtain ⟨ys, n, _, hx, _, hyl, hf⟩ := DataW.trod_struct he h
  obtain ⟨o0, k0⟩ := hone_of hone 0 f0 rfl
  obtain ⟨o1, k1⟩ := hone_of hone 1 f1 rfl
  obtain ⟨o2, k2⟩ := hone_of hone 2 f2 rfl
  match cs, hl, ys, hyl with
  | [c0, c1, c2], _, [y0, y1, y2], _ =>
    have g0 := hf 0 f0 rfl
    have g1 := hf 1 f1 rfl
    have g2 := hf 2 f2 rfl
    rw [o0, k0] at g0; rw [o1, k1] at g1; rw [o2, k2] at g2
    simp only [List.drop_zero, List.drop_succ_cons, List.take_succ_cons, List.take_zero, List.getElem?_cons_zero, List.getElem?_cons_succ] at g0 g1 g2
    obtain ⟨a, ea, rfl, wa⟩ := DataW.trod_int t0 g0
    obtain ⟨b, eb, rfl, wb⟩ := DataW.trod_int t1 g1
    obtain ⟨s, es, rfl, ws⟩ := DataW.trod_string t2 g2
    simp only [List.cons.injEq, and_true] at ea eb es
    subst ea eb es
    have ba := bounds_i64 wa
    have bb := bounds_u64 wb
    refine ⟨⟨a, b.toNat, s⟩, ?_, ?_, ba.1, ba.2, by simp only; omega, ws⟩
    · simp only [C.cells]; rw [show ((b.toNat : Nat) : Int) = b from by omega]
    · rw [hx]; simp only [List.map_cons, List.map_nil, List.flatMap_cons, List.flatMap_nil, List.append_nil]; rw [show ((b.toNat : Nat) : Int) = b from by omega]

theorem add_mk (a : Addr) (h : a.spot = none) (i : Nat) : a.add i = ⟨a.block, a.off + i, none⟩ := by
  obtain ⟨b, o, sp⟩ := a
  simp only at h
  subst h
  exact add_none b o i
theorem spot_none {w : World} {a : Addr} {i : Nat} {v : Value} (h : w.cell? (a.add i) = some v) : i = 0 → a.spot = none := by
  rintro rfl
  have e : a.add 0 = a := by unfold Addr.add; simp
  rw [e] at h
  unfold World.cell? at h
  split at h
  · split at h
    · cases h
    · rename_i hs; cases hh : a.spot with
      | none => rfl
      | some x => rw [hh] at hs; simp at hs
  · cases h

/-- a list of cells that comes in -/
theorem open_cells {t e : TypeId} {f0 f1 f2 : Field} (ht : P.underlying t = some (.slice e)) (he : P.underlying e = some (.struct #[f0, f1, f2])) (hone : oneCellFields P #[f0, f1, f2] = true) (hC : P.cellsOf e = 3)
    (t0 : P.underlying f0.type = some (.int .i64)) (t1 : P.underlying f1.type = some (.int .u64)) (t2 : P.underlying f2.type = some .string)
    {r : Reach} {b0 : Nat} {v : Value} {d : DataW H} {ps : List MemPlace} (hv : Value.okWide P w r b0 t v) (h : DataW.Trod enc P w base spare held t v d ps) :
    ∃ (A : Option Addr) (len cap : Nat) (l : List C), v = .slice A len cap ∧ l.length = len ∧ len ≤ cap ∧ cap ≤ maxLen ∧ Rd w A (l.flatMap C.cells) ∧ (∀ c ∈ l, c.n < 18446744073709551616 ∧ c.s.size ≤ maxLen)
      ∧ ((d = .nil ∧ l = []) ∨ ∃ sp : List (DataW H), d = .slice (l.map fun c => .agg [.lit (.int .i64 c.k), .lit (.int .u64 c.n), .lit (.string c.s.data.toList)]) sp) := by
  obtain ⟨a0, len0, cap0, rfl⟩ := okWide_slice ht hv
  obtain ⟨fuel, hf⟩ := h
  rcases open_slice ht hf with ⟨hcs, hx⟩ | ⟨a, len, cap, m, n, D, Pl, hcs, hb, hl, hm, hmm, hx, hi⟩
  · simp only [Value.cells, List.cons.injEq, Value.slice.injEq, and_true] at hcs
    obtain ⟨rfl, rfl, rfl⟩ := hcs
    simp only [Prod.mk.injEq] at hx
    exact ⟨none, 0, 0, [], rfl, rfl, Nat.le_refl _, Nat.zero_le _, fun hp => absurd hp (by simp), fun c hc => by simp at hc, .inl ⟨hx.1, rfl⟩⟩
  · simp only [Value.cells, List.cons.injEq, Value.slice.injEq, and_true] at hcs
    obtain ⟨rfl, rfl, rfl⟩ := hcs
    simp only [Prod.mk.injEq] at hx
    have hlm : len0 ≤ m := by rw [hmm]; split <;> omega
    obtain ⟨l, hll, hp⟩ := list_of (α := C) len0 (fun i c => (∀ j u, c.cells[j]? = some u → w.cell? (a.add (i * 3 + j)) = some u) ∧ (c.n < 18446744073709551616 ∧ c.s.size ≤ maxLen) ∧ D i = .agg [.lit (.int .i64 c.k), .lit (.int .u64 c.n), .lit (.string c.s.data.toList)]) (fun i hi' => by
      obtain ⟨cs', hc, htr⟩ := hi i (by omega)
      rw [hC] at hc
      obtain ⟨_, hcl, hat⟩ := World.cells?_some hc
      obtain ⟨c, rfl, hd, _, _, hn, hs⟩ := read_cell he hone t0 t1 t2 hcl htr
      simp only [Prod.mk.injEq] at hd
      refine ⟨c, fun j u hu => ?_, ⟨hn, hs⟩, hd.1⟩
      have hj : j < 3 := by
        have := (List.getElem?_eq_some_iff.1 hu).1
        simpa [C.cells] using this
      have h1 := hat j hj
      rw [Go.Deep.add_add] at h1
      rw [h1]; exact hu)
    refine ⟨some a, len0, cap0, l, rfl, hll, hl, hm, fun hpos => ?_, fun c hc => ?_, .inr ⟨(List.range (m - len0)).map fun j => D (len0 + j), ?_⟩⟩
    · have hl0 : 0 < l.length := by
        rw [flat_length (m := 3) (fun _ => rfl)] at hpos; omega
      have h0 := (hp 0 hl0).1 0 _ rfl
      have hsp := spot_none h0 rfl
      refine ⟨a.block, a.off, ?_, ?_, fun j u hu => ?_⟩
      · obtain ⟨b, o, sp⟩ := a
        simp only at hsp
        subst hsp; rfl
      · have := block_lt_of_cell h0
        rw [add_mk a hsp] at this; exact this
      · have hj := (List.getElem?_eq_some_iff.1 hu).1
        rw [flat_length (m := 3) (fun _ => rfl)] at hj
        have hq : j / 3 < l.length := by omega
        have e : j = j / 3 * 3 + j % 3 := by omega
        rw [e, flat_get (m := 3) (fun _ => rfl) l (j / 3) hq (j % 3) (by omega)] at hu
        have h1 := (hp (j / 3) hq).1 (j % 3) u hu
        rw [← e, add_mk a hsp] at h1
        exact h1
    · obtain ⟨i, hi', rfl⟩ := List.getElem_of_mem hc
      exact (hp i hi').2.1
    · rw [hx.1]
      congr 1
      apply List.ext_getElem (by simp [hll])
      intro i h1 h2
      simp only [List.getElem_map, List.getElem_range]
      exact (hp i (by simpa using h2)).2.2

/-- a cell that comes in by value -/
theorem open_cell {e : TypeId} {f0 f1 f2 : Field} (he : P.underlying e = some (.struct #[f0, f1, f2])) (hone : oneCellFields P #[f0, f1, f2] = true) (hC : P.cellsOf e = 3)
    (t0 : P.underlying f0.type = some (.int .i64)) (t1 : P.underlying f1.type = some (.int .u64)) (t2 : P.underlying f2.type = some .string)
    {r : Reach} {b0 : Nat} {v : Value} {d : DataW H} {ps : List MemPlace} (hv : Value.okWide P w r b0 e v) (h : DataW.Trod enc P w base spare held e v d ps) :
    ∃ c : C, v = .agg #[.int .i64 c.k, .int .u64 c.n, .string c.s] ∧ d = .agg [.lit (.int .i64 c.k), .lit (.int .u64 c.n), .lit (.string c.s.data.toList)] ∧ c.n < 18446744073709551616 ∧ c.s.size ≤ maxLen := by
  obtain ⟨cs, rfl, hsz⟩ := okWide_struct he hv
  obtain ⟨fuel, hf⟩ := h
  obtain ⟨c, hcs, hx, _, _, hn, hs⟩ := read_cell he hone t0 t1 t2 (by simp only [Value.cells]; rw [Array.length_toList, hsz, hC]) hf
  simp only [Prod.mk.injEq] at hx
  simp only [Value.cells] at hcs
  refine ⟨c, ?_, hx.1, hn, hs⟩
  rw [← Array.toArray_toList (xs := cs), hcs]; rfl
/-- four words that come in by value -/
theorem open_four {t e : TypeId} (ht : P.underlying t = some (.array 4 e)) (he : P.underlying e = some (.int .u64)) (hC : P.cellsOf e = 1) (hCt : P.cellsOf t = 4)
    {r : Reach} {b0 : Nat} {v : Value} {d : DataW H} {ps : List MemPlace} (hv : Value.okWide P w r b0 t v) (h : DataW.Trod enc P w base spare held t v d ps) :
    ∃ f : Bloom.F, f.ok ∧ v = .agg #[.int .u64 (f 0), .int .u64 (f 1), .int .u64 (f 2), .int .u64 (f 3)] ∧ d = .agg [.lit (.int .u64 (f 0)), .lit (.int .u64 (f 1)), .lit (.int .u64 (f 2)), .lit (.int .u64 (f 3))] := by
  have hv' := hv
  simp only [Value.okWide, ht] at hv'
  obtain ⟨cs, rfl, hsz, _⟩ := hv'
  obtain ⟨fuel, hf⟩ := h
  obtain ⟨xs, m, _, hx, hcl, hxl, hg⟩ := DataW.trod_array ht hf
  simp only [Value.cells] at hcl hg
  obtain ⟨l⟩ := cs
  rw [hCt] at hcl
  match l, hcl, xs, hxl with
  | [c0, c1, c2, c3], _, [y0, y1, y2, y3], _ =>
    have g0 := hg 0 (by decide)
    have g1 := hg 1 (by decide)
    have g2 := hg 2 (by decide)
    have g3 := hg 3 (by decide)
    rw [hC] at g0 g1 g2 g3
    simp only [Nat.mul_one, List.drop_zero, List.drop_succ_cons, List.take_succ_cons, List.take_zero, List.getElem?_cons_zero, List.getElem?_cons_succ] at g0 g1 g2 g3
    obtain ⟨a0, e0, rfl, w0⟩ := DataW.trod_int he g0
    obtain ⟨a1, e1, rfl, w1⟩ := DataW.trod_int he g1
    obtain ⟨a2, e2, rfl, w2⟩ := DataW.trod_int he g2
    obtain ⟨a3, e3, rfl, w3⟩ := DataW.trod_int he g3
    simp only [List.cons.injEq, and_true] at e0 e1 e2 e3
    subst e0 e1 e2 e3
    have b0 := bounds_u64 w0
    have b1 := bounds_u64 w1
    have b2 := bounds_u64 w2
    have b3 := bounds_u64 w3
    simp only [Prod.mk.injEq] at hx
    refine ⟨fun i => if i = 0 then a0.toNat else if i = 1 then a1.toNat else if i = 2 then a2.toNat else if i = 3 then a3.toNat else 0, ?_, ?_, ?_⟩
    · intro i; simp only; split; omega; split; omega; split; omega; split; omega; omega
    · simp only [if_true, show ¬ (1 = 0) from by decide, show ¬ (2 = 0) from by decide, show ¬ (2 = 1) from by decide, show ¬ (3 = 0) from by decide, show ¬ (3 = 1) from by decide, show ¬ (3 = 2) from by decide, if_false]
      rw [show ((a0.toNat : Nat) : Int) = a0 from by omega, show ((a1.toNat : Nat) : Int) = a1 from by omega, show ((a2.toNat : Nat) : Int) = a2 from by omega, show ((a3.toNat : Nat) : Int) = a3 from by omega]
    · rw [hx.1]
      simp only [if_true, show ¬ (1 = 0) from by decide, show ¬ (2 = 0) from by decide, show ¬ (2 = 1) from by decide, show ¬ (3 = 0) from by decide, show ¬ (3 = 1) from by decide, show ¬ (3 = 2) from by decide, if_false, List.map_cons, List.map_nil]
      rw [show ((a0.toNat : Nat) : Int) = a0 from by omega, show ((a1.toNat : Nat) : Int) = a1 from by omega, show ((a2.toNat : Nat) : Int) = a2 from by omega, show ((a3.toNat : Nat) : Int) = a3 from by omega]

/-- what the reading's reach says of cells -/
theorem weightsAll_mem {e : TypeId} {l : List (DataW H)} {d : DataW H} {n : Nat} (hd : d ∈ l) (hn : n ∈ d.weights P e) : n ∈ DataW.weightsAll P e l := by
  induction l with
  | nil => cases hd
  | cons x r ih =>
    simp only [DataW.weightsAll, List.mem_append]
    rcases List.mem_cons.1 hd with rfl | hr
    · exact .inl hn
    · exact .inr (ih hr)
theorem cell_weight {e : TypeId} {f0 f1 f2 : Field} (he : P.underlying e = some (.struct #[f0, f1, f2])) (c : C) :
    c.s.size ∈ (DataW.agg (H := H) [.lit (.int .i64 c.k), .lit (.int .u64 c.n), .lit (.string c.s.data.toList)]).weights P e := by
  simp [DataW.weights, he, DataW.weightsEach]
theorem sized_cell {ts : List TypeId} {ds : List (DataW H)} (h : (DataW.weightsEach P ts ds).all (· ≤ reachBytes) = true) {j : Nat} {e : TypeId} {c : C} {f0 f1 f2 : Field} (he : P.underlying e = some (.struct #[f0, f1, f2]))
    (ht : ts[j]? = some e) (hd : ds[j]? = some (.agg [.lit (.int .i64 c.k), .lit (.int .u64 c.n), .lit (.string c.s.data.toList)])) : c.s.size ≤ reachBytes := by
  have := List.all_eq_true.1 h _ (DataW.weights_mem_each ht hd _ (cell_weight he c))
  simpa using this
theorem sized_cells {ts : List TypeId} {ds : List (DataW H)} (h : (DataW.weightsEach P ts ds).all (· ≤ reachBytes) = true) {j : Nat} {t e : TypeId} {l : List C} {d : DataW H} {f0 f1 f2 : Field} (hu : P.underlying t = some (.slice e)) (he : P.underlying e = some (.struct #[f0, f1, f2]))
    (ht : ts[j]? = some t) (hd : ds[j]? = some d)
    (hl : (d = .nil ∧ l = []) ∨ ∃ sp : List (DataW H), d = .slice (l.map fun c => .agg [.lit (.int .i64 c.k), .lit (.int .u64 c.n), .lit (.string c.s.data.toList)]) sp) :
    l.length * P.bytesOf e ≤ reachBytes ∧ ∀ c ∈ l, c.s.size ≤ reachBytes := by
  rcases hl with ⟨rfl, rfl⟩ | ⟨sp, rfl⟩
  · exact ⟨by simp, fun c hc => by cases hc⟩
  · have hall := List.all_eq_true.1 h
    refine ⟨?_, fun c hc => ?_⟩
    · have h1 := hall _ (DataW.weights_mem_each ht hd (((l.map fun c : C => DataW.agg (H := H) [.lit (.int .i64 c.k), .lit (.int .u64 c.n), .lit (.string c.s.data.toList)]).length + sp.length) * P.bytesOf e) (by simp [DataW.weights, hu]))
      simp only [decide_eq_true_eq, List.length_map] at h1
      exact Nat.le_trans (Nat.mul_le_mul_right _ (by omega)) h1
    · have h1 := hall c.s.size (DataW.weights_mem_each ht hd _ (by
        simp only [DataW.weights, hu, List.mem_cons, List.mem_append]
        exact .inr (.inl (weightsAll_mem (List.mem_map.2 ⟨c, hc, rfl⟩) (cell_weight he c)))))
      simpa using h1
end
end Hy
