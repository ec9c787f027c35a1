/- BloomUnion: the walk at filters; what the bulk says of cells. -/
import Derived.Test.YtiamfjfbmgijhaaBun
import Derived.Test.YtiamfjfbmgijhaaOpen
import Derived.Test.YtiamfjfbmgijhaaRows
namespace Hy
open Go Go.RowKit Go.Proofs.Ytiamfjfbmgijhaa
theorem rd_none {w : World} {A : Option Addr} {l : List C} (h : Rd w A (l.flatMap C.cells)) (hA : A = none) : l.length = 0 := by
  rcases Nat.eq_zero_or_pos l.length with h0 | h0
  · exact h0
  · obtain ⟨b, o, e, _⟩ := h (by rw [flat_length (m := 3) (fun _ => rfl)]; omega)
    rw [hA] at e; cases e
theorem bulk_len {H : Type} (l : List (DataW H)) : l.length ≤ Rows.uptoBulkAll l := by
  induction l with
  | nil => exact Nat.zero_le _
  | cons d r ih =>
    have : 1 ≤ Rows.uptoBulk d := by
      unfold Rows.uptoBulk
      split <;> omega
    simp only [List.length_cons, Rows.uptoBulkAll]; omega
theorem bulk_mem {H : Type} {d : DataW H} : ∀ {l : List (DataW H)}, d ∈ l → Rows.uptoBulk d ≤ Rows.uptoBulkAll l
  | x :: l, h => by
    simp only [Rows.uptoBulkAll]
    rcases List.mem_cons.1 h with rfl | h
    · omega
    · have := bulk_mem h; omega
abbrev datC {H : Type} (c : C) : DataW H := .agg [.lit (.int .i64 c.k), .lit (.int .u64 c.n), .lit (.string c.s.data.toList)]
theorem bulk_c {H : Type} (c : C) : c.s.size ≤ Rows.uptoBulk (datC (H := H) c) := by
  simp only [Rows.uptoBulk, Rows.uptoBulkAll, Array.length_toList]
  show c.s.data.size ≤ _
  omega
theorem bulk_cells {H : Type} {d : DataW H} {l : List C} (h : (d = .nil ∧ l = []) ∨ ∃ sp : List (DataW H), d = .slice (l.map fun c => .agg [.lit (.int .i64 c.k), .lit (.int .u64 c.n), .lit (.string c.s.data.toList)]) sp) :
    l.length ≤ Rows.uptoBulk d ∧ ∀ c ∈ l, c.s.size ≤ Rows.uptoBulk d := by
  rcases h with ⟨rfl, rfl⟩ | ⟨sp, rfl⟩
  · exact ⟨Nat.zero_le _, fun c hc => by cases hc⟩
  · have h1 := bulk_len (l.map fun c : C => datC (H := H) c)
    rw [List.length_map] at h1
    simp only [datC] at h1
    refine ⟨by simp only [Rows.uptoBulk]; omega, fun c hc => ?_⟩
    have h2 := bulk_mem (List.mem_map_of_mem (f := fun c : C => datC (H := H) c) hc)
    have h3 := bulk_c (H := H) c
    simp only [datC] at h2 h3
    simp only [Rows.uptoBulk] at h2 h3 ⊢; omega
end Hy
namespace Go.Proofs.Ytiamfjfbmgijhaa
open Go.RowKit Hy
theorem bunion_walk (a b : List C) (A B : Option Addr) (la lb ca cb : Nat) (k : Int) (n : Nat) (s : ByteArray) (w : World)
    (ha : a.length = la) (hb : b.length = lb) (hra : Rd w A (a.flatMap C.cells)) (hrb : Rd w B (b.flatMap C.cells)) (hla : la ≤ 1048576) (hlb : lb ≤ 1048576) (oka : C.okL a) (okb : C.okL b) (h3 : n < 18446744073709551616) (h4 : s.size ≤ 140737488351232) :
    Calls Try.prog 9 #[.slice A la ca, .slice B lb cb, .agg #[.int .i64 k, .int .u64 n, .string s]] w fun e w' => e = .returned (.bool true) ∧ Ext w w' := by
  have fx := Bloom.of_ok Bloom.none_ok a
  have fy := Bloom.of_ok Bloom.none_ok b
  have fu := Bloom.of_ok Bloom.none_ok (a ++ b)
  have hu := Bloom.union_lists a b
  have hq := fun w => eqT 23 und23 (Bloom.of Bloom.none (a ++ b) 0 : Nat) (Bloom.of Bloom.none (a ++ b) 1 : Nat) (Bloom.of Bloom.none (a ++ b) 2 : Nat) (Bloom.of Bloom.none (a ++ b) 3 : Nat) (Bloom.of Bloom.none (a ++ b) 0 : Nat) (Bloom.of Bloom.none (a ++ b) 1 : Nat) (Bloom.of Bloom.none (a ++ b) 2 : Nat) (Bloom.of Bloom.none (a ++ b) 3 : Nat) w
  simp only [beq_self_eq_true, Bool.and_self] at hq
  refine bunion_core a b A B la lb ca cb _ _ _ _ _ _ _ _ _ _ _ _ (Bloom.may (Bloom.of Bloom.none a) ⟨k, n, s⟩) (Bloom.may (Bloom.of Bloom.none (a ++ b)) ⟨k, n, s⟩) (Bloom.may (Bloom.of Bloom.none b) ⟨k, n, s⟩) k n s w ha hb hra hrb hla hlb (fun h => by rw [← ha]; exact rd_none hra h) (fun h => by rw [← hb]; exact rd_none hrb h)
    (fun w' hx => of_f_any a la A ca w' (hra.keep hx) oka ha (by omega))
    (fun w' hx => of_f_any b lb B cb w' (hrb.keep hx) okb hb (by omega))
    (fun w' D c hr => of_f_any (a ++ b) (la + lb) D c w' hr (fun c hc => by rcases List.mem_append.1 hc with h | h; exact oka c h; exact okb c h) (by rw [List.length_append, ha, hb]) (by omega))
    (fun w => by have h := union_f_any _ _ w fx fy; rw [hu] at h; exact h)
    (fun w => by have h := union_f_any _ _ w fy fx; rw [Bloom.union_comm, hu] at h; exact h)
    (fun w => by have h := union_f_any _ _ w fu fx; rw [← hu, Bloom.union_self_l, hu] at h; exact h)
    (fun w => may_f_any _ k n s w fx h3 h4) (fun w => may_f_any _ k n s w fu h3 h4) (fun w => may_f_any _ k n s w fy h3 h4) hq ?_ ?_
  · intro h; rw [← hu]; exact Bloom.may_union_l _ _ _ h
  · intro h; rw [← hu, Bloom.union_comm]; exact Bloom.may_union_l _ _ _ h
end Go.Proofs.Ytiamfjfbmgijhaa
