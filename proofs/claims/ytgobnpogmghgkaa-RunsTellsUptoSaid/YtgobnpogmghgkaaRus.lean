/- Runs: lists of runs that come in. -/
import Derived.Test.YtgobnpogmghgkaaRuc
import Derived.Test.YtgobnpogmghgkaaOls
import Derived.Test.YtgobnpogmghgkaaUpt
namespace Hy
open Go Go.RowKit Go.ChangeShapes Go.WideShapes Go.ChangeAt Go.Deep Go.Joins Go.Proofs.Ytgobnpogmghgkaa
section
variable {H : Type} {enc : TypeId × Value → H} {P : Program} {w : World} {base : Nat} {spare : Nat → Bool} {held : Bool}
def datRun (a : Runs.Run) : DataW H := .agg [.lit (.int .u64 (a.1 : Int)), .lit (.int .i64 a.2)]
def okRun (a : Runs.Run) : Prop := a.1 < 18446744073709551616 ∧ -9223372036854775808 ≤ a.2 ∧ a.2 ≤ 9223372036854775807
theorem read_run {e : TypeId} {f0 f1 : Field} (he : P.underlying e = some (.struct #[f0, f1])) (hone : oneCellFields P #[f0, f1] = true)
    (t0 : P.underlying f0.type = some (.int .u64)) (t1 : P.underlying f1.type = some (.int .i64))
    (fuel : Nat) (cs : List Value) (x : DataW H × List MemPlace) (hl : cs.length = 2) (h : DataW.trod enc P w base spare held fuel e cs = some x) :
    ∃ c : Runs.Run, cs = run2 c ∧ x.1 = datRun c ∧ okRun c := by
  obtain ⟨ys, n, _, hx, _, hyl, hf⟩ := DataW.trod_struct he h
  obtain ⟨o0, k0⟩ := hone_of hone 0 f0 rfl
  obtain ⟨o1, k1⟩ := hone_of hone 1 f1 rfl
  match cs, hl, ys, hyl with
  | [c0, c1], _, [y0, y1], _ =>
    have g0 := hf 0 f0 rfl
    have g1 := hf 1 f1 rfl
    rw [o0, k0] at g0; rw [o1, k1] at g1
    simp only [List.drop_zero, List.drop_succ_cons, List.take_succ_cons, List.take_zero, List.getElem?_cons_zero, List.getElem?_cons_succ] at g0 g1
    obtain ⟨a, ea, rfl, wa⟩ := DataW.trod_int t0 g0
    obtain ⟨b, eb, rfl, wb⟩ := DataW.trod_int t1 g1
    simp only [List.cons.injEq, and_true] at ea eb
    subst ea eb
    have ba := bounds_u64 wa
    have bb := bounds_i64 wb
    refine ⟨(a.toNat, b), ?_, ?_, by simp only; omega, bb.1, bb.2⟩
    · simp only [run2]; rw [show ((a.toNat : Nat) : Int) = a from by omega]
    · rw [hx]; simp only [datRun, List.map_cons, List.map_nil]; rw [show ((a.toNat : Nat) : Int) = a from by omega]
theorem bulk_list {d : DataW H} {D : List (DataW H)} (h : IsList d D) : D.length ≤ Rows.uptoBulk d := by
  rcases h with ⟨rfl, rfl⟩ | ⟨sp, rfl⟩
  · exact Nat.zero_le _
  · have := bulk_all_len D
    simp only [Rows.uptoBulk]
    omega
end
end Hy
