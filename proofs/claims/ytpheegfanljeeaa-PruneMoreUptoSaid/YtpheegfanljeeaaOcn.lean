/- Arguments opened: conditions, kinds, lists of what is known, of filters. -/
import Derived.Test.YtpheegfanljeeaaQbb
import Derived.Test.YtpheegfanljeeaaOst
import Derived.Test.YtpheegfanljeeaaUpl
namespace Hy
open Go Go.RowKit Go.ChangeShapes Go.WideShapes Go.ChangeAt Go.Deep Go.Joins
section
variable {H : Type} {enc : TypeId × Value → H} {P : Program} {w : World} {base : Nat} {spare : Nat → Bool} {held : Bool}
def datCnd (c : Cnd) : DataW H := .agg [.lit (.int .i64 c.1), .lit (.int .i64 c.2.1), datCel c.2.2]
def okCnd (c : Cnd) : Prop := okCel c.2.2
theorem read_cnd {t e : TypeId} {f0 f1 f2 : Field} {g0 g1 g2 : Field} (ht : P.underlying t = some (.struct #[f0, f1, f2]))
    (ho : f0.offset = 0 ∧ f1.offset = 1 ∧ f2.offset = 2) (hk : P.cellsOf f0.type = 1 ∧ P.cellsOf f1.type = 1 ∧ P.cellsOf f2.type = 3)
    (t0 : P.underlying f0.type = some (.int .i64)) (t1 : P.underlying f1.type = some (.int .i64)) (e2 : f2.type = e)
    (he : P.underlying e = some (.struct #[g0, g1, g2])) (hone : oneCellFields P #[g0, g1, g2] = true)
    (s0 : P.underlying g0.type = some (.int .i64)) (s1 : P.underlying g1.type = some (.int .u64)) (s2 : P.underlying g2.type = some .string)
    (fuel : Nat) (cs : List Value) (x : DataW H × List MemPlace) (hl : cs.length = 5) (h : DataW.trod enc P w base spare held fuel t cs = some x) :
    ∃ c : Cnd, cs = cnd5 c ∧ x.1 = datCnd c ∧ okCnd c := by
  obtain ⟨ys, n, _, hx, _, hyl, hF⟩ := DataW.trod_struct ht h
  match cs, hl, ys, hyl with
  | [c0, c1, c2, c3, c4], _, [y0, y1, y2], _ =>
    have q0 := hF 0 f0 rfl
    have q1 := hF 1 f1 rfl
    have q2 := hF 2 f2 rfl
    rw [ho.1, hk.1] at q0; rw [ho.2.1, hk.2.1] at q1; rw [ho.2.2, hk.2.2, e2] at q2
    simp only [List.drop_zero, List.drop_succ_cons, List.take_succ_cons, List.take_zero, List.getElem?_cons_zero, List.getElem?_cons_succ] at q0 q1 q2
    obtain ⟨a, ea, rfl, wa⟩ := DataW.trod_int t0 q0
    obtain ⟨b, eb, rfl, wb⟩ := DataW.trod_int t1 q1
    obtain ⟨z, ez, dz, kz⟩ := read_cel he hone s0 s1 s2 _ _ _ rfl q2
    simp only [List.cons.injEq, and_true] at ea eb ez
    obtain ⟨rfl, rfl, rfl⟩ := ez
    subst ea eb
    refine ⟨(a, b, z), rfl, ?_, kz⟩
    rw [hx]
    simp only [datCnd, List.map_cons, List.map_nil, dz]
def okCnds (l : List Cnd) : Prop := ∀ c ∈ l, c.2.2.2.1 < 18446744073709551616
theorem okCnds_of {l : List Cnd} (h : ∀ c ∈ l, okCnd c) : okCnds l := fun c hc => (h c hc).1
/-- what is known of columns -/
theorem read_sta {t : TypeId} {e : TypeId} {f0 f1 f2 f3 : Field} {g0 g1 g2 : Field} (ht : P.underlying t = some (.struct #[f0, f1, f2, f3]))
    (ho : f0.offset = 0 ∧ f1.offset = 1 ∧ f2.offset = 2 ∧ f3.offset = 5) (hk : P.cellsOf f0.type = 1 ∧ P.cellsOf f1.type = 1 ∧ P.cellsOf f2.type = 3 ∧ P.cellsOf f3.type = 3)
    (t0 : P.underlying f0.type = some (.int .i64)) (t1 : P.underlying f1.type = some (.int .i64)) (e2 : f2.type = e) (e3 : f3.type = e)
    (he : P.underlying e = some (.struct #[g0, g1, g2])) (hone : oneCellFields P #[g0, g1, g2] = true)
    (s0 : P.underlying g0.type = some (.int .i64)) (s1 : P.underlying g1.type = some (.int .u64)) (s2 : P.underlying g2.type = some .string)
    (fuel : Nat) (cs : List Value) (x : DataW H × List MemPlace) (hl : cs.length = 8) (h : DataW.trod enc P w base spare held fuel t cs = some x) :
    ∃ s : Sta, cs = sta8 s ∧ x.1 = datSta s ∧ okSta s := by
  obtain ⟨ys, n, _, hx, _, hyl, hF⟩ := DataW.trod_struct ht h
  match cs, hl, ys, hyl with
  | [c0, c1, c2, c3, c4, c5, c6, c7], _, [y0, y1, y2, y3], _ =>
    have q0 := hF 0 f0 rfl
    have q1 := hF 1 f1 rfl
    have q2 := hF 2 f2 rfl
    have q3 := hF 3 f3 rfl
    rw [ho.1, hk.1] at q0; rw [ho.2.1, hk.2.1] at q1; rw [ho.2.2.1, hk.2.2.1, e2] at q2; rw [ho.2.2.2, hk.2.2.2, e3] at q3
    simp only [List.drop_zero, List.drop_succ_cons, List.take_succ_cons, List.take_zero, List.getElem?_cons_zero, List.getElem?_cons_succ] at q0 q1 q2 q3
    obtain ⟨a, ea, rfl, wa⟩ := DataW.trod_int t0 q0
    obtain ⟨b, eb, rfl, wb⟩ := DataW.trod_int t1 q1
    obtain ⟨z, ez, dz, kz⟩ := read_cel he hone s0 s1 s2 _ _ _ rfl q2
    obtain ⟨y, ey, dy, ky⟩ := read_cel he hone s0 s1 s2 _ _ _ rfl q3
    simp only [List.cons.injEq, and_true] at ea eb ez ey
    obtain ⟨rfl, rfl, rfl⟩ := ez
    obtain ⟨rfl, rfl, rfl⟩ := ey
    subst ea eb
    refine ⟨(a, b, z, y), rfl, ?_, kz, ky⟩
    rw [hx]
    simp only [datSta, List.map_cons, List.map_nil, dz, dy]
theorem sta_weight {t : TypeId} {e : TypeId} {f0 f1 f2 f3 : Field} {g0 g1 g2 : Field} (ht : P.underlying t = some (.struct #[f0, f1, f2, f3])) (e2 : f2.type = e) (e3 : f3.type = e)
    (he : P.underlying e = some (.struct #[g0, g1, g2])) (s : Sta) : s.2.2.1.2.2.size ∈ (datSta (H := H) s).weights P t ∧ s.2.2.2.2.2.size ∈ (datSta (H := H) s).weights P t := by
  constructor <;> simp [datSta, datCel, DataW.weights, ht, he, e2, e3, DataW.weightsEach]
/-- kinds -/
def in1 (x : Int) : List Value := [.int .i64 x]
def datIn (x : Int) : DataW H := .lit (.int .i64 x)
theorem in1_i64s (l : List Int) : l.flatMap in1 = i64s l := by
  induction l with
  | nil => rfl
  | cons x l ih => rw [List.flatMap_cons, ih]; rfl
theorem read_in {e : TypeId} (he : P.underlying e = some (.int .i64)) (fuel : Nat) (cs : List Value) (x : DataW H × List MemPlace) (hl : cs.length = 1) (h : DataW.trod enc P w base spare held fuel e cs = some x) :
    ∃ c : Int, cs = in1 c ∧ x.1 = datIn c ∧ True := by
  match cs, hl with
  | [c0], _ =>
    obtain ⟨a, ea, rfl, wa⟩ := DataW.trod_int he h
    simp only [List.cons.injEq, and_true] at ea
    subst ea
    exact ⟨a, rfl, rfl, trivial⟩
/-- filters -/
def datFr (f : Bloom.F) : DataW H := .agg [.lit (.int .u64 (f 0)), .lit (.int .u64 (f 1)), .lit (.int .u64 (f 2)), .lit (.int .u64 (f 3))]
theorem read_four {t e : TypeId} (ht : P.underlying t = some (.array 4 e)) (he : P.underlying e = some (.int .u64)) (hC : P.cellsOf e = 1)
    (fuel : Nat) (cs : List Value) (x : DataW H × List MemPlace) (hl : cs.length = 4) (h : DataW.trod enc P w base spare held fuel t cs = some x) :
    ∃ f : Bloom.F, cs = four4 f ∧ x.1 = datFr f ∧ f.ok := by
  obtain ⟨xs, m, _, hx, hcl, hxl, hg⟩ := DataW.trod_array ht h
  match cs, hl, xs, hxl with
  | [c0, c1, c2, c3], _, [y0, y1, y2, y3], _ =>
    have g0 := hg 0 (by decide)
    have g1 := hg 1 (by decide)
    have g2 := hg 2 (by decide)
    have g3 := hg 3 (by decide)
    rw [hC] at g0 g1 g2 g3
    simp only [Nat.mul_one, List.drop_zero, List.drop_succ_cons, List.take_succ_cons, List.take_zero, List.getElem?_cons_zero, List.getElem?_cons_succ] at g0 g1 g2 g3
    obtain ⟨a0, e0, rfl, w0⟩ := DataW.trod_int he g0
    obtain ⟨a1, e1, rfl, w1⟩ := DataW.trod_int he g1
    obtain ⟨a2, e2, rfl, w2⟩ := DataW.trod_int he g2
    obtain ⟨a3, e3, rfl, w3⟩ := DataW.trod_int he g3
    simp only [List.cons.injEq, and_true] at e0 e1 e2 e3
    subst e0 e1 e2 e3
    have b0 := bounds_u64 w0
    have b1 := bounds_u64 w1
    have b2 := bounds_u64 w2
    have b3 := bounds_u64 w3
    have t0 : ((a0.toNat : Nat) : Int) = a0 := by omega
    have t1 : ((a1.toNat : Nat) : Int) = a1 := by omega
    have t2 : ((a2.toNat : Nat) : Int) = a2 := by omega
    have t3 : ((a3.toNat : Nat) : Int) = a3 := by omega
    refine ⟨fun i => if i = 0 then a0.toNat else if i = 1 then a1.toNat else if i = 2 then a2.toNat else if i = 3 then a3.toNat else 0, ?_, ?_, ?_⟩
    · show _ = [Value.int .u64 ((a0.toNat : Nat) : Int), Value.int .u64 ((a1.toNat : Nat) : Int), Value.int .u64 ((a2.toNat : Nat) : Int), Value.int .u64 ((a3.toNat : Nat) : Int)]
      rw [t0, t1, t2, t3]
    · rw [hx]
      show _ = DataW.agg [.lit (.int .u64 ((a0.toNat : Nat) : Int)), .lit (.int .u64 ((a1.toNat : Nat) : Int)), .lit (.int .u64 ((a2.toNat : Nat) : Int)), .lit (.int .u64 ((a3.toNat : Nat) : Int))]
      rw [t0, t1, t2, t3]
      rfl
    · intro i; simp only; split; omega; split; omega; split; omega; split; omega; omega
end
end Hy
