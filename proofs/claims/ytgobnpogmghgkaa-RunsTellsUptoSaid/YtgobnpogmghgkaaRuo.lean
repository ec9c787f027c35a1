/- Runs: Clone, Joined: walks. -/
import Derived.Test.YtgobnpogmghgkaaRun
import Derived.Test.YtgobnpogmghgkaaOws
import Derived.Lib.SliceRun
namespace Hy
open Go Go.RowKit
theorem own_low {w : World} {base base' : Nat} {e : TypeId} {size : Nat} {v : Value} {n : Nat} {xs : List Value} (h : w.ownsRow base' e size v n xs) (hb : base ≤ base') : w.ownsRow base e size v n xs := by
  refine ⟨h.1, ?_⟩
  rcases h.2 with h | ⟨g, cap, cur, hv, hg, r⟩
  · exact .inl h
  · exact .inr ⟨g, cap, cur, hv, Nat.le_trans hb hg, r⟩
theorem own_blk {w : World} {base : Nat} {e : TypeId} {size : Nat} {g n c : Nat} {xs : List Value} (h : w.ownsRow base e size (.slice (some ⟨g, 0, none⟩) n c) n xs) : ∃ cur, Blk w g e cur := by
  rcases h.2 with ⟨h, _⟩ | ⟨g', c', cur, hv, _, hg, _⟩
  · cases h
  · injection hv with h1
    injection h1 with h1
    injection h1 with h1
    subst h1
    exact ⟨cur, hg⟩
namespace Runs
def joinR : List Run → List Run → List Run
  | [], b => b
  | [a], [] => [a]
  | [(u, m)], (x, k) :: b => if u = x then (u, m + k) :: b else (u, m) :: (x, k) :: b
  | a :: a2 :: r, b => a :: joinR (a2 :: r) b
theorem joinR_app (a : List Run) (l : Run) (b : List Run) : joinR (a ++ [l]) b = a ++ joinR [l] b := by
  induction a with
  | nil => rfl
  | cons x a ih =>
    cases a with
    | nil => rfl
    | cons y a => simp only [List.cons_append, joinR] at ih ⊢; rw [ih]
theorem joinR_nil (a : List Run) : joinR a [] = a := by
  rcases List.eq_nil_or_concat a with rfl | ⟨a', l, rfl⟩
  · rfl
  · rw [List.concat_eq_append, joinR_app]; rfl
theorem joinR_same (a : List Run) (u : Nat) (m k : Int) (b : List Run) : joinR (a ++ [(u, m)]) ((u, k) :: b) = a ++ (u, m + k) :: b := by
  rw [joinR_app]; simp [joinR]
theorem joinR_diff (a : List Run) (u x : Nat) (m k : Int) (b : List Run) (h : u ≠ x) : joinR (a ++ [(u, m)]) ((x, k) :: b) = (a ++ [(u, m)]) ++ (x, k) :: b := by
  rw [joinR_app]; simp [joinR, h]
@[irreducible] def fin (l : List Run) : List Run × Nat := if (unrun l).length ≤ 64 then (l, 0) else ([], 2)
@[irreducible] def jo (a b : List Run) : List Run × Nat := if chk none 0 a ≠ 0 then ([], chk none 0 a) else if chk none 0 b ≠ 0 then ([], chk none 0 b) else fin (joinR a b)
end Runs
end Hy
namespace Go.Proofs.Ytgobnpogmghgkaa
open Go.RowKit Hy
theorem cloneR_any (l : List Runs.Run) (A : Option Addr) (n cap : Nat) (w : World) (hn : l.length = n) (hr : Rd w A (rws l)) (hA : A = none → n = 0) (hnl : n ≤ 1000000000000) :
    Calls Try.prog 46 #[.slice A n cap] w fun e w' => ∃ v, e = .returned v ∧ w'.ownsRow w.heap.size 54 2 v n (rws l) ∧ Ext w w' := by
  have HN := hid hn
  have HR := hid hr
  have HL := hid hnl
  have q := fun (w : World) (a : Option Addr) (n c n' c' : Nat) => Lib.run_eql_slice_nil w 37 54 a n c n' c' Try.underlying37
  have hnI : (n : Int) ≤ 1000000000000 := by omega
  cases A with
  | none =>
    obtain rfl : n = 0 := hA rfl
    obtain rfl : l = [] := List.eq_nil_of_length_eq_zero hn
    clear hn hr hA hnl
    go_enter Try.func46, Try.ntmps46
    go_wp2
    go_returns
    exact ⟨_, rfl, World.ownsRow_nil _ _ _ _, ext_refl _⟩
  | some a =>
    clear hn hr hA hnl
    go_enter Try.func46, Try.ntmps46
    go_wp2_with (at_builtin; go_loud (refine wpList_app rfl (.tmp 5) (.tmp 6) rowRn rfl _ 0 [] rfl (own_new (base := w.heap.size) (n := 0) rfl rfl (Nat.le_refl _) (by decide)) _ n (rws l) rfl (Src.rd Try.underlying37 _ n cap _ (by rw [rws_len, HN.out]) (HR.out.keep (Ext.new (ext_refl _) _)) (rws_one _) (fun h => by cases h)) (by have := HL.out; simp only [maxLen]; omega) (by have := HL.out; omega) (by simp) ?_; intro v' w4 hown4 hgrow hat hbel))
    go_returns
    exact ⟨_, rfl, by simpa using hown4, (Ext.new (ext_refl w) _).trans hbel⟩
end Go.Proofs.Ytgobnpogmghgkaa
