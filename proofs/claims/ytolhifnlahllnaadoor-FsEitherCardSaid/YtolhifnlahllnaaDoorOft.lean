/- Arguments opened: file systems, ops. -/
import Derived.Test.YtolhifnlahllnaaDoorOrd
import Derived.Test.YtolhifnlahllnaaDoorFtb
import Derived.Test.YtolhifnlahllnaaDoorRows
import Derived.ProofKit
import Derived.OpenShut
import Derived.LaidMore
import Derived.Lay
import Derived.SevenTiedAt
import Derived.Stop.Joined
namespace Hy
open Go Go.RowKit Go.ChangeShapes Go.WideShapes Go.ChangeAt Go.Deep Go.Joins
section
variable {H : Type} {enc : TypeId × Value → H} {P : Program} {w : World} {base : Nat} {spare : Nat → Bool} {held : Bool}
def datEnt (c : Ent) : DataW H := .agg [.lit (.string c.1.data.toList), .lit (.int .i64 c.2)]
def okEnt (c : Ent) : Prop := -9223372036854775808 ≤ c.2 ∧ c.2 ≤ 9223372036854775807
theorem read_ent {e : TypeId} {f0 f1 : Field} (he : P.underlying e = some (.struct #[f0, f1])) (hone : oneCellFields P #[f0, f1] = true)
    (t0 : P.underlying f0.type = some .string) (t1 : P.underlying f1.type = some (.int .i64))
    (fuel : Nat) (cs : List Value) (x : DataW H × List MemPlace) (hl : cs.length = 2) (h : DataW.trod enc P w base spare held fuel e cs = some x) :
    ∃ c : Ent, cs = ent2 c ∧ x.1 = datEnt c ∧ okEnt c := by
  obtain ⟨ys, n, _, hx, _, hyl, hf⟩ := DataW.trod_struct he h
  obtain ⟨o0, k0⟩ := hone_of hone 0 f0 rfl
  obtain ⟨o1, k1⟩ := hone_of hone 1 f1 rfl
  match cs, hl, ys, hyl with
  | [c0, c1], _, [y0, y1], _ =>
    have g0 := hf 0 f0 rfl
    have g1 := hf 1 f1 rfl
    rw [o0, k0] at g0; rw [o1, k1] at g1
    simp only [List.drop_zero, List.drop_succ_cons, List.take_succ_cons, List.take_zero, List.getElem?_cons_zero, List.getElem?_cons_succ] at g0 g1
    obtain ⟨s, es, rfl, ws⟩ := DataW.trod_string t0 g0
    obtain ⟨a, ea, rfl, wa⟩ := DataW.trod_int t1 g1
    simp only [List.cons.injEq, and_true] at ea es
    subst ea es
    have ba := bounds_i64 wa
    exact ⟨(s, a), rfl, by rw [hx]; rfl, ba.1, ba.2⟩
def datNod (c : Nod) : DataW H := .agg [.lit (.string c.1.data.toList), .lit (.string c.2.data.toList)]
theorem read_nod {e : TypeId} {f0 f1 : Field} (he : P.underlying e = some (.struct #[f0, f1])) (hone : oneCellFields P #[f0, f1] = true)
    (t0 : P.underlying f0.type = some .string) (t1 : P.underlying f1.type = some .string)
    (fuel : Nat) (cs : List Value) (x : DataW H × List MemPlace) (hl : cs.length = 2) (h : DataW.trod enc P w base spare held fuel e cs = some x) :
    ∃ c : Nod, cs = nod2 c ∧ x.1 = datNod c ∧ True := by
  obtain ⟨ys, n, _, hx, _, hyl, hf⟩ := DataW.trod_struct he h
  obtain ⟨o0, k0⟩ := hone_of hone 0 f0 rfl
  obtain ⟨o1, k1⟩ := hone_of hone 1 f1 rfl
  match cs, hl, ys, hyl with
  | [c0, c1], _, [y0, y1], _ =>
    have g0 := hf 0 f0 rfl
    have g1 := hf 1 f1 rfl
    rw [o0, k0] at g0; rw [o1, k1] at g1
    simp only [List.drop_zero, List.drop_succ_cons, List.take_succ_cons, List.take_zero, List.getElem?_cons_zero, List.getElem?_cons_succ] at g0 g1
    obtain ⟨s, es, rfl, ws⟩ := DataW.trod_string t0 g0
    obtain ⟨t, et, rfl, wt⟩ := DataW.trod_string t1 g1
    simp only [List.cons.injEq, and_true] at es et
    subst es et
    exact ⟨(s, t), rfl, by rw [hx]; rfl, trivial⟩
def datOpn (c : Fs.Opn) : DataW H := .agg [.lit (.int .i64 c.1), .lit (.string c.2.1.data.toList), .lit (.string c.2.2.1.data.toList), .lit (.string c.2.2.2.data.toList)]
theorem read_opn {e : TypeId} {f0 f1 f2 f3 : Field} (he : P.underlying e = some (.struct #[f0, f1, f2, f3])) (hone : oneCellFields P #[f0, f1, f2, f3] = true)
    (t0 : P.underlying f0.type = some (.int .i64)) (t1 : P.underlying f1.type = some .string) (t2 : P.underlying f2.type = some .string) (t3 : P.underlying f3.type = some .string)
    (fuel : Nat) (cs : List Value) (x : DataW H × List MemPlace) (hl : cs.length = 4) (h : DataW.trod enc P w base spare held fuel e cs = some x) :
    ∃ c : Fs.Opn, cs = Fs.opn4 c ∧ x.1 = datOpn c ∧ True := by
  obtain ⟨ys, n, _, hx, _, hyl, hf⟩ := DataW.trod_struct he h
  obtain ⟨o0, k0⟩ := hone_of hone 0 f0 rfl
  obtain ⟨o1, k1⟩ := hone_of hone 1 f1 rfl
  obtain ⟨o2, k2⟩ := hone_of hone 2 f2 rfl
  obtain ⟨o3, k3⟩ := hone_of hone 3 f3 rfl
  match cs, hl, ys, hyl with
  | [c0, c1, c2, c3], _, [y0, y1, y2, y3], _ =>
    have g0 := hf 0 f0 rfl
    have g1 := hf 1 f1 rfl
    have g2 := hf 2 f2 rfl
    have g3 := hf 3 f3 rfl
    rw [o0, k0] at g0; rw [o1, k1] at g1; rw [o2, k2] at g2; rw [o3, k3] at g3
    simp only [List.drop_zero, List.drop_succ_cons, List.take_succ_cons, List.take_zero, List.getElem?_cons_zero, List.getElem?_cons_succ] at g0 g1 g2 g3
    obtain ⟨a, ea, rfl, wa⟩ := DataW.trod_int t0 g0
    obtain ⟨s, es, rfl, ws⟩ := DataW.trod_string t1 g1
    obtain ⟨t, et, rfl, wt⟩ := DataW.trod_string t2 g2
    obtain ⟨u, eu, rfl, wu⟩ := DataW.trod_string t3 g3
    simp only [List.cons.injEq, and_true] at ea es et eu
    subst ea es et eu
    exact ⟨(a, s, t, u), rfl, by rw [hx]; rfl, trivial⟩
theorem open_opn {e : TypeId} {f0 f1 f2 f3 : Field} (he : P.underlying e = some (.struct #[f0, f1, f2, f3])) (hone : oneCellFields P #[f0, f1, f2, f3] = true) (hC : P.cellsOf e = 4)
    (t0 : P.underlying f0.type = some (.int .i64)) (t1 : P.underlying f1.type = some .string) (t2 : P.underlying f2.type = some .string) (t3 : P.underlying f3.type = some .string)
    {r : Reach} {b0 : Nat} {v : Value} {d : DataW H} {ps : List MemPlace} (hv : Value.okWide P w r b0 e v) (h : DataW.Trod enc P w base spare held e v d ps) :
    ∃ c : Fs.Opn, v = Fs.opV c ∧ d = datOpn c := by
  obtain ⟨cs, rfl, hsz⟩ := okWide_struct he hv
  obtain ⟨fuel, hf⟩ := h
  obtain ⟨c, hcs, hx, _⟩ := read_opn he hone t0 t1 t2 t3 _ _ _ (by simp only [Value.cells]; rw [Array.length_toList, hsz, hC]) hf
  simp only [Value.cells] at hcs
  refine ⟨c, ?_, hx⟩
  rw [← Array.toArray_toList (xs := cs), hcs]
  rfl
theorem opn_b {e : TypeId} {f0 f1 f2 f3 : Field} (he : P.underlying e = some (.struct #[f0, f1, f2, f3])) (c : Fs.Opn) (h : ∀ n ∈ (datOpn (H := H) c).weights P e, n ≤ reachBytes) : Fs.OpB c := by
  have h1 := h c.2.1.size (by simp [datOpn, DataW.weights, he, DataW.weightsEach])
  have h2 := h c.2.2.1.size (by simp [datOpn, DataW.weights, he, DataW.weightsEach])
  have h3 := h c.2.2.2.size (by simp [datOpn, DataW.weights, he, DataW.weightsEach])
  unfold reachBytes at h1 h2 h3
  exact ⟨by omega, by omega, by omega⟩
theorem ent_w {e : TypeId} {f0 f1 : Field} (he : P.underlying e = some (.struct #[f0, f1])) (c : Ent) : c.1.size ∈ (datEnt (H := H) c).weights P e := by
  simp [datEnt, DataW.weights, he, DataW.weightsEach]
end
end Hy
namespace Go.Proofs.YtolhifnlahllnaaDoor
open Go Go.RowKit Go.ChangeShapes Go.WideShapes Go.ChangeAt Go.Deep Go.Joins Hy
set_option maxRecDepth 100000 in
/-- a file system that comes in -/
theorem open_fs {H : Type} {enc : TypeId × Value → H} {w : World} {base : Nat} {spare : Nat → Bool} {held : Bool} {r : Reach} {b0 : Nat} {v : Value} {d : DataW H} {ps : List MemPlace} (hv : Value.okWide Tryd.prog w r b0 25 v) (h : DataW.Trod enc Tryd.prog w base spare held 25 v d ps) :
    ∃ f : Fs.FSy, FsV w v f ∧ (∀ x ∈ f.2.1, okEnt x) ∧ (∀ x ∈ f.2.2, okEnt x) ∧ ∃ d1 d2 d3, d = .agg [d1, d2, d3] ∧ IsList d1 (f.1.map datNod) ∧ IsList d2 (f.2.1.map datEnt) ∧ IsList d3 (f.2.2.map datEnt) := by
  obtain ⟨f0, f1, f2, hu, ho, t0, t1, t2⟩ : ∃ f0 f1 f2, Tryd.prog.underlying 25 = some (.struct #[f0, f1, f2]) ∧ oneCellFields Tryd.prog #[f0, f1, f2] = true ∧ f0.type = 22 ∧ f1.type = 23 ∧ f2.type = 23 := ⟨_, _, _, Tryd.underlying25, by kernel_rfl, rfl, rfl, rfl⟩
  obtain ⟨cs, rfl, hsz⟩ := okWide_struct hu hv
  obtain ⟨fuel, hf⟩ := h
  simp only [Value.cells] at hf
  obtain ⟨ys, n, _, hx, hcl, hyl, hF⟩ := DataW.trod_struct hu hf
  obtain ⟨l⟩ := cs
  rw [show Tryd.prog.cellsOf 25 = 3 by kernel_rfl] at hcl
  obtain ⟨o0, k0⟩ := hone_of ho 0 f0 rfl
  obtain ⟨o1, k1⟩ := hone_of ho 1 f1 rfl
  obtain ⟨o2, k2'⟩ := hone_of ho 2 f2 rfl
  match l, hcl, ys, hyl with
  | [c0, c1, c2], _, [y0, y1, y2], _ =>
    have q0 := hF 0 f0 rfl
    have q1 := hF 1 f1 rfl
    have q2 := hF 2 f2 rfl
    rw [o0, k0, t0] at q0; rw [o1, k1, t1] at q1; rw [o2, k2', t2] at q2
    simp only [List.drop_zero, List.drop_succ_cons, List.take_succ_cons, List.take_zero, List.getElem?_cons_zero, List.getElem?_cons_succ] at q0 q1 q2
    obtain ⟨NA, n1, nc, L1, e1, h1, _, _, z1, r1, _, i1⟩ := read_list (f := nod2) (m := 2) (fun _ => rfl) (by decide) (g := datNod) (ok := fun _ => True) Tryd.underlying22 (by kernel_rfl) (read_nod Tryd.underlying49 (by kernel_rfl) Tryd.underlying9 Tryd.underlying9) q0
    obtain ⟨DA, n2, dc, L2, e2, h2, _, _, z2, r2, k2, i2⟩ := read_list (f := ent2) (m := 2) (fun _ => rfl) (by decide) (g := datEnt) (ok := okEnt) Tryd.underlying23 (by kernel_rfl) (read_ent Tryd.underlying47 (by kernel_rfl) Tryd.underlying9 Tryd.underlying3) q1
    obtain ⟨SA, n3, sc, L3, e3, h3, _, _, z3, r3, k3, i3⟩ := read_list (f := ent2) (m := 2) (fun _ => rfl) (by decide) (g := datEnt) (ok := okEnt) Tryd.underlying23 (by kernel_rfl) (read_ent Tryd.underlying47 (by kernel_rfl) Tryd.underlying9 Tryd.underlying3) q2
    simp only [List.cons.injEq, and_true] at e1 e2 e3
    subst e1 e2 e3 h1 h2 h3
    simp only [Prod.mk.injEq] at hx
    exact ⟨(L1, L2, L3), ⟨NA, nc, DA, dc, SA, sc, rfl, r1, r2, r3, z1, z2, z3⟩, k2, k3, y0.1, y1.1, y2.1, hx.1, i1, i2, i3⟩
set_option maxRecDepth 100000 in
theorem fs_b {H : Type} {f : Fs.FSy} {d1 d2 d3 : DataW H} (hw : ∀ n ∈ (DataW.agg [d1, d2, d3]).weights Tryd.prog 25, n ≤ reachBytes) (i1 : IsList d1 (f.1.map datNod)) (i2 : IsList d2 (f.2.1.map datEnt)) (i3 : IsList d3 (f.2.2.map datEnt)) (k2 : ∀ x ∈ f.2.1, okEnt x) (k3 : ∀ x ∈ f.2.2, okEnt x) : Fs.FsB f := by
  have w1 := weights_list Tryd.underlying22 i1 (fun n hn => hw n (by simp [DataW.weights, Tryd.underlying25, DataW.weightsEach, hn]))
  have w2 := weights_list Tryd.underlying23 i2 (fun n hn => hw n (by simp [DataW.weights, Tryd.underlying25, DataW.weightsEach, hn]))
  have w3 := weights_list Tryd.underlying23 i3 (fun n hn => hw n (by simp [DataW.weights, Tryd.underlying25, DataW.weightsEach, hn]))
  rw [show Tryd.prog.bytesOf 49 = 32 from by kernel_rfl, List.length_map] at w1
  rw [show Tryd.prog.bytesOf 47 = 24 from by kernel_rfl, List.length_map] at w2 w3
  have s2 : ∀ x ∈ f.2.1, x.1.size ≤ reachBytes := fun x hx => w2.2 _ (List.mem_map.2 ⟨x, hx, rfl⟩) _ (ent_w Tryd.underlying47 x)
  have s3 : ∀ x ∈ f.2.2, x.1.size ≤ reachBytes := fun x hx => w3.2 _ (List.mem_map.2 ⟨x, hx, rfl⟩) _ (ent_w Tryd.underlying47 x)
  have v1 := w1.1; have v2 := w2.1; have v3 := w3.1
  unfold reachBytes at v1 v2 v3 s2 s3
  exact ⟨by omega, by omega, by omega, fun x hx => by have := s2 x hx; omega, fun x hx => by have := s3 x hx; omega, k2, k3⟩
end Go.Proofs.YtolhifnlahllnaaDoor
namespace Go.Proofs.YtolhifnlahllnaaDoor
open Go.ChangeShapes Go.WideShapes Go.ChangeAt Go.RowKit
abbrev laidTab : List (String × DataW Unit) := [("unicode/utf8.acceptRanges", Rows.laid_unicode_utf8_acceptRanges), ("unicode/utf8.first", Rows.laid_unicode_utf8_first)]
theorem door_met (os : Os) (args : Array Value) : laidMetH Tryd.prog laidTab ((World.laidAll Tryd.prog os laidTab).forCall (fun _ _ => 0) ⟨#[], args, []⟩).memory := by
  rw [MakeChecks.laidMetH_plain _ _ _ (by kernel_rfl)]
  exact laidMet_laidAll _ (by kernel_rfl) (by kernel_rfl)
end Go.Proofs.YtolhifnlahllnaaDoor
