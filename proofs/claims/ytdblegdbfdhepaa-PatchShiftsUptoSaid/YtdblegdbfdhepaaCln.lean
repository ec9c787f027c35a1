/- slices.Clone of a list of numbers: walk. -/
import Derived.Test.YtdblegdbfdhepaaRow
import Derived.Lib.SliceRun
namespace Go.Proofs.Ytdblegdbfdhepaa
open Go.RowKit Hy
theorem cloneN_any (l : List Nat) (A : Option Addr) (n cap : Nat) (w : World) (hn : l.length = n) (hr : Rd w A (u64s l)) (hA : A = none → n = 0) (hnl : n ≤ 1000000000000) :
    Calls Try.prog 66 #[.slice A n cap] w fun e w' => ∃ v, e = .returned v ∧ w'.ownsRow w.heap.size 33 1 v n (u64s l) ∧ Ext w w' := by
  have HN := hid hn
  have HR := hid hr
  have HL := hid hnl
  have q := fun (w : World) (a : Option Addr) (n c n' c' : Nat) => Lib.run_eql_slice_nil w 22 33 a n c n' c' Try.underlying22
  have hnI : (n : Int) ≤ 1000000000000 := by omega
  cases A with
  | none =>
    obtain rfl : n = 0 := hA rfl
    obtain rfl : l = [] := List.eq_nil_of_length_eq_zero hn
    clear hn hr hA hnl
    go_enter Try.func66, Try.ntmps66
    go_wp2
    go_returns
    exact ⟨_, rfl, World.ownsRow_nil _ _ _ _, ext_refl _⟩
  | some a =>
    clear hn hr hA hnl
    go_enter Try.func66, Try.ntmps66
    go_wp2_with (at_builtin; go_loud (refine wpList_app rfl (.tmp 5) (.tmp 6) rowU64 rfl _ 0 [] rfl (own_new (base := w.heap.size) (n := 0) rfl rfl (Nat.le_refl _) (by decide)) _ n (u64s l) rfl (Src.rd Try.underlying22 _ n cap _ (by rw [u64s_len, HN.out, Nat.mul_one]) (HR.out.keep (Ext.new (ext_refl _) _)) (u64s_one _) (fun h => by cases h)) (by have := HL.out; simp only [maxLen]; omega) (by have := HL.out; omega) (by simp) ?_; intro v' w4 hown4 hgrow hat hbel))
    go_returns
    exact ⟨_, rfl, by simpa using hown4, (Ext.new (ext_refl w) _).trans hbel⟩
end Go.Proofs.Ytdblegdbfdhepaa
