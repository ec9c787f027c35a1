/- Arguments opened: tables. -/
import Derived.Test.YtolhifnlahllnaaGreatDoorOpx
import Derived.Test.YtolhifnlahllnaaGreatDoorClx
import Derived.Test.YtolhifnlahllnaaGreatDoorTbe
namespace Hy
open Go Go.RowKit Go.ChangeShapes Go.WideShapes Go.ChangeAt Go.Deep Go.Joins
section
variable {H : Type} {enc : TypeId × Value → H} {P : Program} {w : World} {base : Nat} {spare : Nat → Bool} {held : Bool}
def datCo (c : Ent) : DataW H := .agg [.lit (.string c.1.data.toList), .lit (.int .i64 c.2)]
def okCo (c : Ent) : Prop := -9223372036854775808 ≤ c.2 ∧ c.2 ≤ 9223372036854775807
theorem read_co {e : TypeId} {f0 f1 : Field} (he : P.underlying e = some (.struct #[f0, f1])) (hone : oneCellFields P #[f0, f1] = true)
    (t0 : P.underlying f0.type = some .string) (t1 : P.underlying f1.type = some (.int .i64))
    (fuel : Nat) (cs : List Value) (x : DataW H × List MemPlace) (hl : cs.length = 2) (h : DataW.trod enc P w base spare held fuel e cs = some x) :
    ∃ c : Ent, cs = ent2 c ∧ x.1 = datCo c ∧ okCo c := by
  obtain ⟨ys, n, _, hx, _, hyl, hf⟩ := DataW.trod_struct he h
  obtain ⟨o0, k0⟩ := hone_of hone 0 f0 rfl
  obtain ⟨o1, k1⟩ := hone_of hone 1 f1 rfl
  match cs, hl, ys, hyl with
  | [c0, c1], _, [y0, y1], _ =>
    have g0 := hf 0 f0 rfl
    have g1 := hf 1 f1 rfl
    rw [o0, k0] at g0; rw [o1, k1] at g1
    simp only [List.drop_zero, List.drop_succ_cons, List.take_succ_cons, List.take_zero, List.getElem?_cons_zero, List.getElem?_cons_succ] at g0 g1
    obtain ⟨s, es, rfl, ws⟩ := DataW.trod_string t0 g0
    obtain ⟨a, ea, rfl, wa⟩ := DataW.trod_int t1 g1
    simp only [List.cons.injEq, and_true] at ea es
    subst ea es
    have ba := bounds_i64 wa
    exact ⟨(s, a), rfl, by rw [hx]; rfl, ba.1, ba.2⟩
theorem co_w {e : TypeId} {f0 f1 : Field} (he : P.underlying e = some (.struct #[f0, f1])) (c : Ent) : c.1.size ∈ (datCo (H := H) c).weights P e := by
  simp [datCo, DataW.weights, he, DataW.weightsEach]
theorem open_co {e : TypeId} {f0 f1 : Field} (he : P.underlying e = some (.struct #[f0, f1])) (hone : oneCellFields P #[f0, f1] = true) (hC : P.cellsOf e = 2)
    (t0 : P.underlying f0.type = some .string) (t1 : P.underlying f1.type = some (.int .i64))
    {r : Reach} {b0 : Nat} {v : Value} {d : DataW H} {ps : List MemPlace} (hv : Value.okWide P w r b0 e v) (h : DataW.Trod enc P w base spare held e v d ps) :
    ∃ c : Ent, v = .agg #[.string c.1, .int .i64 c.2] ∧ d = datCo c := by
  obtain ⟨cs, rfl, hsz⟩ := okWide_struct he hv
  obtain ⟨fuel, hf⟩ := h
  obtain ⟨c, hcs, hx, _⟩ := read_co he hone t0 t1 _ _ _ (by simp only [Value.cells]; rw [Array.length_toList, hsz, hC]) hf
  simp only [Value.cells] at hcs
  refine ⟨c, ?_, hx⟩
  rw [← Array.toArray_toList (xs := cs), hcs]
  rfl
/-- a row that comes in: where it lies, its cells, its datum -/
abbrev RowJ (H : Type) := ((Option Addr × Nat × Nat) × List Cel) × DataW H
def rwj (x : RowJ H) : List Value := rw1 x.1
def okRowJ (w : World) (x : RowJ H) : Prop := RwOk w x.1 ∧ (∀ c ∈ x.1.2, okCel c) ∧ IsList x.2 (x.1.2.map datCel)
theorem read_rowj {t e : TypeId} {f0 f1 f2 : Field} (ht : P.underlying t = some (.slice e)) (hC : P.cellsOf e = 3) (he : P.underlying e = some (.struct #[f0, f1, f2])) (hone : oneCellFields P #[f0, f1, f2] = true)
    (t0 : P.underlying f0.type = some (.int .i64)) (t1 : P.underlying f1.type = some (.int .u64)) (t2 : P.underlying f2.type = some .string)
    (fuel : Nat) (cs : List Value) (x : DataW H × List MemPlace) (_ : cs.length = 1) (h : DataW.trod enc P w base spare held fuel t cs = some x) :
    ∃ c : RowJ H, cs = rwj c ∧ x.1 = c.2 ∧ okRowJ w c := by
  obtain ⟨A, len, cap, l, rfl, h1, h2, _, h4, h5, h6, h7⟩ := read_list (f := cel3) (m := 3) (fun _ => rfl) (by decide) (g := datCel) (ok := okCel) ht hC (fun fuel cs x hl h => read_cel he hone t0 t1 t2 fuel cs x hl h) h
  exact ⟨(((A, len, cap), l), x.1), rfl, rfl, ⟨h1, h2, h4, h5⟩, h6, h7⟩
theorem rws_inj (L : List (RowJ H)) : L.flatMap rwj = rws' (L.map Prod.fst) := by
  induction L with
  | nil => rfl
  | cons x l ih => rw [List.flatMap_cons, ih]; rfl
end
end Hy
namespace Go.Proofs.YtolhifnlahllnaaGreatDoor
open Go Go.RowKit Go.ChangeShapes Go.WideShapes Go.ChangeAt Go.Deep Go.Joins Hy
set_option maxRecDepth 100000 in
theorem open_tb {H : Type} {enc : TypeId × Value → H} {w : World} {base : Nat} {spare : Nat → Bool} {held : Bool} {r : Reach} {b0 : Nat} {v : Value} {d : DataW H} {ps : List MemPlace} (hv : Value.okWide Tryz.prog w r b0 25 v) (h : DataW.Trod enc Tryz.prog w base spare held 25 v d ps) :
    ∃ t : Tb.Tab, TbV w v t ∧ ∃ (L : List (RowJ H)) (d1 d2 : DataW H), d = .agg [d1, d2] ∧ t.2 = L.map (·.1.2) ∧ IsList d1 (t.1.map datCo) ∧ IsList d2 (L.map Prod.snd) ∧ ∀ x ∈ L, IsList x.2 (x.1.2.map datCel) := by
  obtain ⟨f0, f1, hu, ho, t0, t1⟩ : ∃ f0 f1, Tryz.prog.underlying 25 = some (.struct #[f0, f1]) ∧ oneCellFields Tryz.prog #[f0, f1] = true ∧ f0.type = 22 ∧ f1.type = 23 := ⟨_, _, Tryz.underlying25, by kernel_rfl, rfl, rfl⟩
  obtain ⟨cs, rfl, hsz⟩ := okWide_struct hu hv
  obtain ⟨fuel, hf⟩ := h
  simp only [Value.cells] at hf
  obtain ⟨ys, n, _, hx, hcl, hyl, hF⟩ := DataW.trod_struct hu hf
  obtain ⟨l⟩ := cs
  rw [show Tryz.prog.cellsOf 25 = 2 by kernel_rfl] at hcl
  obtain ⟨o0, k0⟩ := hone_of ho 0 f0 rfl
  obtain ⟨o1, k1⟩ := hone_of ho 1 f1 rfl
  match l, hcl, ys, hyl with
  | [c0, c1], _, [y0, y1], _ =>
    have q0 := hF 0 f0 rfl
    have q1 := hF 1 f1 rfl
    rw [o0, k0, t0] at q0; rw [o1, k1, t1] at q1
    simp only [List.drop_zero, List.drop_succ_cons, List.take_succ_cons, List.take_zero, List.getElem?_cons_zero, List.getElem?_cons_succ] at q0 q1
    obtain ⟨NA, n1, nc, L1, e1, h1, g1, _, z1, r1, k1', i1⟩ := read_list (f := ent2) (m := 2) (fun _ => rfl) (by decide) (g := datCo) (ok := okCo) Tryz.underlying22 (by kernel_rfl) (read_co Tryz.underlying39 (by kernel_rfl) Tryz.underlying9 Tryz.underlying3) q0
    obtain ⟨DA, n2, dc, L2, e2, h2, _, _, z2, r2, k2', i2⟩ := read_list (f := rwj) (m := 1) (fun _ => rfl) (by decide) (g := Prod.snd) (ok := okRowJ w) Tryz.underlying23 (by kernel_rfl) (read_rowj Tryz.underlying45 (by kernel_rfl) Tryz.underlying42 (by kernel_rfl) Tryz.underlying3 Tryz.underlying40 Tryz.underlying9) q1
    simp only [List.cons.injEq, and_true] at e1 e2
    subst e1 e2 h1 h2
    simp only [Prod.mk.injEq] at hx
    rw [rws_inj] at r2
    refine ⟨(L1, L2.map (·.1.2)), ⟨NA, nc, DA, dc, L2.map Prod.fst, by simp, r1, r2, by simp, fun x hx' => ?_, z1, fun h => by simpa using z2 h, g1⟩, L2, y0.1, y1.1, hx.1, rfl, i1, i2, fun x hx' => (k2' x hx').2.2⟩
    obtain ⟨y, hy, rfl⟩ := List.mem_map.1 hx'
    exact (k2' y hy).1
set_option maxRecDepth 100000 in
theorem tb_b {H : Type} {t : Tb.Tab} {L : List (RowJ H)} {d1 d2 : DataW H} (hw : ∀ n ∈ (DataW.agg [d1, d2]).weights Tryz.prog 25, n ≤ reachBytes) (ht : t.2 = L.map (·.1.2)) (i1 : IsList d1 (t.1.map datCo)) (i2 : IsList d2 (L.map Prod.snd)) (i3 : ∀ x ∈ L, IsList x.2 (x.1.2.map datCel)) : TbB t := by
  have w1 := weights_list Tryz.underlying22 i1 (fun n hn => hw n (by simp [DataW.weights, Tryz.underlying25, DataW.weightsEach, hn]))
  have w2 := weights_list Tryz.underlying23 i2 (fun n hn => hw n (by simp [DataW.weights, Tryz.underlying25, DataW.weightsEach, hn]))
  rw [show Tryz.prog.bytesOf 39 = 24 from by kernel_rfl, List.length_map] at w1
  rw [show Tryz.prog.bytesOf 45 = 24 from by kernel_rfl, List.length_map] at w2
  have s1 : ∀ x ∈ t.1, x.1.size ≤ reachBytes := fun x hx => w1.2 _ (List.mem_map.2 ⟨x, hx, rfl⟩) _ (co_w Tryz.underlying39 x)
  have s2 : ∀ x ∈ L, x.1.2.length * 32 ≤ reachBytes := fun x hx => by
    have w3 := weights_list Tryz.underlying45 (i3 x hx) (w2.2 _ (List.mem_map.2 ⟨x, hx, rfl⟩))
    rw [show Tryz.prog.bytesOf 42 = 32 from by kernel_rfl, List.length_map] at w3
    exact w3.1
  have v1 := w1.1; have v2 := w2.1
  unfold reachBytes at v1 v2 s1 s2
  refine ⟨by omega, by rw [ht, List.length_map]; omega, fun x hx => by have := s1 x hx; omega, fun x hx => ?_⟩
  rw [ht] at hx
  obtain ⟨y, hy, rfl⟩ := List.mem_map.1 hx
  have := s2 y hy
  omega
end Go.Proofs.YtolhifnlahllnaaGreatDoor
