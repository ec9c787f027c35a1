/- Cells: Alone, CellCheck: walks. -/
import Derived.Test.YtpheegfanljeeaaCed
import Derived.Laws.Closers25b
namespace Hy.Cel
theorem emptyB (s : ByteArray) : s.toList.isEmpty = decide (s.size = 0) := by
  have h := Go.toList_nil_iff_emptyBytes s
  by_cases e : s.toList = []
  · have := h.1 e
    subst this
    rw [e]; rfl
  · have h2 : ¬ s.size = 0 := fun h0 => e (h.2 (by apply ByteArray.ext; apply Array.eq_empty_of_size_eq_zero; exact h0))
    simp [h2, e]
end Hy.Cel
namespace Go.Proofs.Ytpheegfanljeeaa
open Go.RowKit Hy
theorem alone_any (kind : Int) (c : Cel) (w : World) :
    Calls Try.prog 69 #[.int .i64 kind, celV c] w fun e w' => e = .returned (.int .i64 (Cel.alone kind c : Nat)) ∧ Ext w w' := by
  obtain ⟨k, n, s⟩ := c
  go_enter Try.func69, Try.ntmps69
  go_wp2
  all_goals go_returns
  all_goals refine ⟨ret_int ?_, Ext.new (ext_refl w) _⟩
  all_goals simp only [Cel.emptyB, bne_iff_ne, ne_eq, bne_eq_false_iff_eq, Bool.not_eq_true', Bool.not_eq_false', decide_eq_true_eq, decide_eq_false_iff_not] at *
  all_goals (unfold Cel.alone; simp only; repeat' split)
  all_goals omega
theorem cellCheck_any (kind : Int) (c : Cel) (w : World) :
    Calls Try.prog 74 #[.int .i64 kind, celV c] w fun e w' => e = .returned (.int .i64 (Cel.alone kind c : Nat)) ∧ Ext w w' := by
  obtain ⟨k, n, s⟩ := c
  go_enter Try.func74, Try.ntmps74
  go_wp2
  all_goals go_returns
  all_goals refine ⟨ret_int ?_, Ext.new (ext_refl w) _⟩
  all_goals (try simp only [bne_iff_ne, ne_eq, bne_eq_false_iff_eq] at *)
  all_goals (unfold Cel.alone; simp only; repeat' split)
  all_goals omega
end Go.Proofs.Ytpheegfanljeeaa
