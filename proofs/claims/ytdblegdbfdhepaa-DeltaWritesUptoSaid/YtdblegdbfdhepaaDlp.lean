/- Delta: plain words and laws: differences, sums, zig and zag. No program in sight. -/
import Derived.Test.YtdblegdbfdhepaaHyk
namespace Hy.Dlt
open Go
@[irreducible] def sb (n p : Nat) : Nat := (n + (18446744073709551616 - p)) % 18446744073709551616
@[irreducible] def ad (p n : Nat) : Nat := (p + n) % 18446744073709551616
theorem sb_lt (n p : Nat) : sb n p < 18446744073709551616 := by unfold sb; omega
theorem ad_lt (p n : Nat) : ad p n < 18446744073709551616 := by unfold ad; omega
theorem sb_int (n p : Nat) (hp : p < 18446744073709551616) : IntKind.u64.wrap ((n : Int) - (p : Int)) = ((sb n p : Nat) : Int) := by unfold sb; rw [IntKind.wrap_u64]; omega
theorem ad_int (p n : Nat) : IntKind.u64.wrap ((p : Int) + (n : Int)) = ((ad p n : Nat) : Int) := by unfold ad; rw [IntKind.wrap_u64]; omega
theorem ad_sb (n p : Nat) (hn : n < 18446744073709551616) (hp : p < 18446744073709551616) : ad p (sb n p) = n := by unfold ad sb; omega
theorem sb_ad (n p : Nat) (hn : n < 18446744073709551616) (hp : p < 18446744073709551616) : sb (ad p n) p = n := by unfold ad sb; omega
theorem sb_zero (n : Nat) (hn : n < 18446744073709551616) : sb n 0 = n := by unfold sb; omega
theorem ad_zero (n : Nat) (hn : n < 18446744073709551616) : ad 0 n = n := by unfold ad; omega
theorem sb_lin (a b p q : Nat) (hp : p < 18446744073709551616) (hq : q < 18446744073709551616) : sb (ad a b) (ad p q) = ad (sb a p) (sb b q) := by unfold ad sb; omega
theorem ad_lin (a b p q : Nat) : ad (ad p q) (ad a b) = ad (ad p a) (ad q b) := by unfold ad; omega
theorem sb_step (f s : Nat) (hf : f < 18446744073709551616) (hs : s < 18446744073709551616) : sb (ad f s) f = s := sb_ad s f hs hf
/-- differences -/
def difs : Nat → List Nat → List Nat
  | _, [] => []
  | p, n :: l => sb n p :: difs n l
def sums : Nat → List Nat → List Nat
  | _, [] => []
  | p, n :: l => ad p n :: sums (ad p n) l
theorem difs_len (p : Nat) (l : List Nat) : (difs p l).length = l.length := by
  induction l generalizing p with
  | nil => rfl
  | cons n l ih => simp [difs, ih]
theorem sums_len (p : Nat) (l : List Nat) : (sums p l).length = l.length := by
  induction l generalizing p with
  | nil => rfl
  | cons n l ih => simp [sums, ih]
theorem difs_lt (p : Nat) (l : List Nat) : ∀ x ∈ difs p l, x < 18446744073709551616 := by
  induction l generalizing p with
  | nil => simp [difs]
  | cons n l ih =>
    intro x hx
    rcases List.mem_cons.1 hx with rfl | hx
    · exact sb_lt _ _
    · exact ih n x hx
theorem sums_lt (p : Nat) (l : List Nat) : ∀ x ∈ sums p l, x < 18446744073709551616 := by
  induction l generalizing p with
  | nil => simp [sums]
  | cons n l ih =>
    intro x hx
    rcases List.mem_cons.1 hx with rfl | hx
    · exact ad_lt _ _
    · exact ih _ x hx
/-- what was last, and what all of it is -/
def lst (p : Nat) (l : List Nat) : Nat := l.getLastD p
def tot (p : Nat) (l : List Nat) : Nat := l.foldl ad p
theorem lst_snoc (p : Nat) (l : List Nat) (x : Nat) : lst p (l ++ [x]) = x := by simp [lst]
theorem tot_snoc (p : Nat) (l : List Nat) (x : Nat) : tot p (l ++ [x]) = ad (tot p l) x := by simp [tot]
theorem difs_snoc (p : Nat) (l : List Nat) (x : Nat) : difs p (l ++ [x]) = difs p l ++ [sb x (lst p l)] := by
  induction l generalizing p with
  | nil => rfl
  | cons n l ih =>
    rw [List.cons_append, difs, difs, ih, List.cons_append]
    congr 3
    unfold lst
    cases l <;> simp [List.getLastD]
theorem sums_snoc (p : Nat) (l : List Nat) (x : Nat) : sums p (l ++ [x]) = sums p l ++ [ad (tot p l) x] := by
  induction l generalizing p with
  | nil => rfl
  | cons n l ih => rw [List.cons_append, sums, sums, ih, List.cons_append]; rfl
theorem lst_lt (p : Nat) (l : List Nat) (hp : p < 18446744073709551616) (hl : ∀ x ∈ l, x < 18446744073709551616) : lst p l < 18446744073709551616 := by
  unfold lst
  cases h : l.getLast? with
  | none => rw [List.getLastD_eq_getLast?, h]; exact hp
  | some y => rw [List.getLastD_eq_getLast?, h]; exact hl y (List.mem_of_getLast? h)
theorem tot_lt (p : Nat) (l : List Nat) (hp : p < 18446744073709551616) : tot p l < 18446744073709551616 := by
  rcases List.eq_nil_or_concat l with rfl | ⟨q, x, rfl⟩
  · exact hp
  · rw [List.concat_eq_append, tot_snoc]; exact ad_lt _ _
theorem sums_difs (p : Nat) (l : List Nat) (hp : p < 18446744073709551616) (hl : ∀ x ∈ l, x < 18446744073709551616) : sums p (difs p l) = l := by
  induction l generalizing p with
  | nil => rfl
  | cons n l ih =>
    have hn := hl n (by simp)
    rw [difs, sums, ad_sb n p hn hp, ih n hn (fun x hx => hl x (by simp [hx]))]
theorem difs_sums (p : Nat) (l : List Nat) (hp : p < 18446744073709551616) (hl : ∀ x ∈ l, x < 18446744073709551616) : difs p (sums p l) = l := by
  induction l generalizing p with
  | nil => rfl
  | cons n l ih =>
    have hn := hl n (by simp)
    rw [sums, difs, sb_ad n p hn hp, ih _ (ad_lt _ _) (fun x hx => hl x (by simp [hx]))]
/-- Zig and Zag -/
@[irreducible] def zig (n : Nat) : Nat := if n < 9223372036854775808 then 2 * n else 2 * (18446744073709551616 - n) - 1
@[irreducible] def zag (n : Nat) : Nat := if n % 2 = 0 then n / 2 else 18446744073709551616 - (n / 2 + 1)
theorem zig_lo {n : Nat} (h : n < 9223372036854775808) : zig n = 2 * n := by unfold zig; rw [if_pos h]
theorem zig_hi {n : Nat} (h : ¬ n < 9223372036854775808) : zig n = 2 * (18446744073709551616 - n) - 1 := by unfold zig; rw [if_neg h]
theorem zag_ev {n : Nat} (h : n % 2 = 0) : zag n = n / 2 := by unfold zag; rw [if_pos h]
theorem zag_od {n : Nat} (h : ¬ n % 2 = 0) : zag n = 18446744073709551616 - (n / 2 + 1) := by unfold zag; rw [if_neg h]
theorem zig_lt (n : Nat) (hn : n < 18446744073709551616) : zig n < 18446744073709551616 := by unfold zig; split <;> omega
theorem zag_lt (n : Nat) (hn : n < 18446744073709551616) : zag n < 18446744073709551616 := by unfold zag; split <;> omega
theorem zag_zig (n : Nat) (hn : n < 18446744073709551616) : zag (zig n) = n := by
  by_cases h : n < 9223372036854775808
  · rw [zig_lo h, zag_ev (by omega)]; omega
  · rw [zig_hi h, zag_od (by omega)]; omega
theorem zig_zag (n : Nat) (hn : n < 18446744073709551616) : zig (zag n) = n := by
  by_cases h : n % 2 = 0
  · rw [zag_ev h, zig_lo (by omega)]; omega
  · rw [zag_od h, zig_hi (by omega)]; omega
theorem map_zag_zig (l : List Nat) (hl : ∀ x ∈ l, x < 18446744073709551616) : (l.map zig).map zag = l := by
  rw [List.map_map]
  conv => rhs; rw [← List.map_id l]
  exact List.map_congr_left fun x hx => zag_zig x (hl x hx)
/-- Diffs, Sums, with what is wrong -/
def df (l : List Nat) : List Nat × Nat := if 64 < l.length then ([], 2) else (difs 0 l, 0)
def sm (l : List Nat) : List Nat × Nat := if 64 < l.length then ([], 2) else (sums 0 l, 0)
end Hy.Dlt
