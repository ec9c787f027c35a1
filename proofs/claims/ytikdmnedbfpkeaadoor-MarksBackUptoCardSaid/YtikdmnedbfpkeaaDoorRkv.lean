/- And, Or, Not: the errors: walks, printed by gen_both2.py. -/
import Derived.Test.YtikdmnedbfpkeaaDoorRkg
import Derived.Test.YtikdmnedbfpkeaaDoorRkr
namespace Go.Proofs.YtikdmnedbfpkeaaDoor
open Go.RowKit Hy
theorem heads2 (A B : Option Addr) (n m ca cb : Nat) (w : World) (t : TypeId) : ∀ k, k < 2 → ∃ C c, (w.alloc (.cells #[.slice A n ca, .slice B m cb] t)).cell? ⟨w.heap.size, 0 + k, none⟩ = some (.slice C ((fun i => if i = 0 then n else m) k) c) := by
  intro k hk
  match k, hk with
  | 0, _ => exact ⟨A, ca, by simp [go_sem]⟩
  | 1, _ => exact ⟨B, cb, by simp [go_sem]⟩
theorem heads1 (A : Option Addr) (n ca : Nat) (w : World) (t : TypeId) : ∀ k, k < 1 → ∃ C c, (w.alloc (.cells #[.slice A n ca] t)).cell? ⟨w.heap.size, 0 + k, none⟩ = some (.slice C ((fun _ => n) k) c) := by
  intro k hk
  match k, hk with
  | 0, _ => exact ⟨A, ca, by simp [go_sem]⟩
theorem and_many (A B : Option Addr) (n m ca cb : Nat) (w : World) (h : 64 < n ∨ 64 < m) :
    Calls Tryd.prog 19 #[.slice A n ca, .slice B m cb] w fun e w' => e = .returned (.tuple #[.slice none 0 0, .int .i64 2]) ∧ Ext w w' := by
  have HE : Hid (Calls Tryd.prog 35 #[.func (.func 36) #[] #[], .slice (some ⟨w.heap.size, 0, none⟩) 2 2] (w.alloc (.cells #[.slice A n ca, .slice B m cb] 22)) fun e w' => e = .returned (.tuple #[.slice none 0 0, .int .i64 2]) ∧ (w.alloc (.cells #[.slice A n ca, .slice B m cb] 22)) = w') := by
    by_cases h1 : 64 < n
    · exact hid (each_many _ _ 2 _ 0 2 0 _ (by omega) (by omega) (heads2 A B n m ca cb w _) (fun k hk => absurd hk (Nat.not_lt_zero _)) (by simpa using h1))
    · exact hid (each_many _ _ 2 _ 0 2 1 _ (by omega) (by omega) (heads2 A B n m ca cb w _) (fun k hk => by show (if k = 0 then n else m) ≤ 64; rw [if_pos (by omega)]; omega) (by simp; omega))
  clear h
  go_enter Tryd.func19, Tryd.ntmps19
  go_wp2_with fail
  refine Calls.mono HE.out ?_
  rintro e _ ⟨rfl, rfl⟩
  go_wp2
  go_returns
  exact ⟨rfl, (ext_refl w).new _⟩
theorem and_form (A B : Option Addr) (n m ca cb : Nat) (w : World) (h1 : n ≤ 64) (h2 : m ≤ 64) (h3 : n ≠ m) :
    Calls Tryd.prog 19 #[.slice A n ca, .slice B m cb] w fun e w' => e = .returned (.tuple #[.slice none 0 0, .int .i64 1]) ∧ Ext w w' := by
  have HE := hid (each_form (.func (.func 36) #[] #[]) _ 2 _ 0 2 1 _ (by omega) (by omega) (heads2 A B n m ca cb w 22) (fun k hk => by show (if k = 0 then n else m) ≤ 64; split <;> omega) (fun k hk => by show (if k = 0 then n else m) = (if 0 = 0 then n else m); rw [if_pos (by omega)]; rfl) (by simp; omega))
  clear h1 h2 h3
  go_enter Tryd.func19, Tryd.ntmps19
  go_wp2_with fail
  refine Calls.mono HE.out ?_
  rintro e _ ⟨rfl, rfl⟩
  go_wp2
  go_returns
  exact ⟨rfl, (ext_refl w).new _⟩
theorem or_many (A B : Option Addr) (n m ca cb : Nat) (w : World) (h : 64 < n ∨ 64 < m) :
    Calls Tryd.prog 20 #[.slice A n ca, .slice B m cb] w fun e w' => e = .returned (.tuple #[.slice none 0 0, .int .i64 2]) ∧ Ext w w' := by
  have HE : Hid (Calls Tryd.prog 35 #[.func (.func 37) #[] #[], .slice (some ⟨w.heap.size, 0, none⟩) 2 2] (w.alloc (.cells #[.slice A n ca, .slice B m cb] 22)) fun e w' => e = .returned (.tuple #[.slice none 0 0, .int .i64 2]) ∧ (w.alloc (.cells #[.slice A n ca, .slice B m cb] 22)) = w') := by
    by_cases h1 : 64 < n
    · exact hid (each_many _ _ 2 _ 0 2 0 _ (by omega) (by omega) (heads2 A B n m ca cb w _) (fun k hk => absurd hk (Nat.not_lt_zero _)) (by simpa using h1))
    · exact hid (each_many _ _ 2 _ 0 2 1 _ (by omega) (by omega) (heads2 A B n m ca cb w _) (fun k hk => by show (if k = 0 then n else m) ≤ 64; rw [if_pos (by omega)]; omega) (by simp; omega))
  clear h
  go_enter Tryd.func20, Tryd.ntmps20
  go_wp2_with fail
  refine Calls.mono HE.out ?_
  rintro e _ ⟨rfl, rfl⟩
  go_wp2
  go_returns
  exact ⟨rfl, (ext_refl w).new _⟩
theorem or_form (A B : Option Addr) (n m ca cb : Nat) (w : World) (h1 : n ≤ 64) (h2 : m ≤ 64) (h3 : n ≠ m) :
    Calls Tryd.prog 20 #[.slice A n ca, .slice B m cb] w fun e w' => e = .returned (.tuple #[.slice none 0 0, .int .i64 1]) ∧ Ext w w' := by
  have HE := hid (each_form (.func (.func 37) #[] #[]) _ 2 _ 0 2 1 _ (by omega) (by omega) (heads2 A B n m ca cb w 22) (fun k hk => by show (if k = 0 then n else m) ≤ 64; split <;> omega) (fun k hk => by show (if k = 0 then n else m) = (if 0 = 0 then n else m); rw [if_pos (by omega)]; rfl) (by simp; omega))
  clear h1 h2 h3
  go_enter Tryd.func20, Tryd.ntmps20
  go_wp2_with fail
  refine Calls.mono HE.out ?_
  rintro e _ ⟨rfl, rfl⟩
  go_wp2
  go_returns
  exact ⟨rfl, (ext_refl w).new _⟩
end Go.Proofs.YtikdmnedbfpkeaaDoor
