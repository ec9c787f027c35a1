/- Runs: lists of runs as cells. -/
import Derived.Test.YtgobnpogmghgkaaRup
import Derived.Test.YtgobnpogmghgkaaApp
namespace Hy
open Go Go.RowKit
def run2 (a : Runs.Run) : List Value := [.int .u64 (a.1 : Int), .int .i64 a.2]
def rws (l : List Runs.Run) : List Value := l.flatMap run2
theorem rws_len (l : List Runs.Run) : (rws l).length = l.length * 2 := flat_length (f := run2) (m := 2) (fun _ => rfl) l
theorem rws_one (l : List Runs.Run) : ∀ u ∈ rws l, u.oneCell' = true := fun u hu => by
  obtain ⟨a, _, h⟩ := List.mem_flatMap.1 hu
  simp only [run2, List.mem_cons, List.not_mem_nil, or_false] at h
  rcases h with rfl | rfl <;> rfl
theorem rws_app (l m : List Runs.Run) : rws (l ++ m) = rws l ++ rws m := by simp [rws]
theorem rws_get (l : List Runs.Run) (k : Nat) (h : k < l.length) : (rws l)[k * 2]? = some (.int .u64 (l[k].1 : Int)) ∧ (rws l)[k * 2 + 1]? = some (.int .i64 l[k].2) := by
  have h0 := flat_get (f := run2) (m := 2) (fun _ => rfl) l k h 0 (by decide)
  have h1 := flat_get (f := run2) (m := 2) (fun _ => rfl) l k h 1 (by decide)
  exact ⟨h0, h1⟩
theorem Rd.runs {w : World} {A : Option Addr} {l : List Runs.Run} (h : Rd w A (rws l)) (k : Nat) (hk : k < l.length) :
    ∃ b o, A = some ⟨b, o, none⟩ ∧ b < w.heap.size ∧ ∀ j (hj : j < l.length), w.cell? ⟨b, o + j * 2, none⟩ = some (.int .u64 (l[j].1 : Int)) ∧ w.cell? ⟨b, o + j * 2 + 1, none⟩ = some (.int .i64 l[j].2) := by
  obtain ⟨b, o, e, hb, hc⟩ := h (by rw [rws_len]; omega)
  exact ⟨b, o, e, hb, fun j hj => ⟨hc _ _ (rws_get l j hj).1, by rw [Nat.add_assoc]; exact hc _ _ (rws_get l j hj).2⟩⟩
end Hy
