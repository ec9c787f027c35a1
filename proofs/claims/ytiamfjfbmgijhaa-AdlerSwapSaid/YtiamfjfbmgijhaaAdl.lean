/- Adler: the plain words. No program in sight. -/
import Derived.Handy
namespace Hy.Adler
/-- the two halves behind a text's bytes -/
def ad (p : Nat × Nat) (l : List UInt8) : Nat × Nat :=
  l.foldl (fun p b => ((p.1 + b.toNat) % 65521, (p.2 + (p.1 + b.toNat)) % 65521)) p
def halves (c : Nat) : Nat × Nat := (c % 65536 % 65521, c / 65536 % 65521)
def sum (p : Nat × Nat) : Nat := p.2 % 65521 * 65536 + p.1 % 65521
/-- the sum of a text behind a sum -/
def more (c : Nat) (l : List UInt8) : Nat := sum (ad (halves c) l)

theorem ad_lt (p : Nat × Nat) (l : List UInt8) (h1 : p.1 < 65521) (h2 : p.2 < 65521) : (ad p l).1 < 65521 ∧ (ad p l).2 < 65521 := by
  induction l generalizing p with
  | nil => exact ⟨h1, h2⟩
  | cons b l ih => exact ih _ (Nat.mod_lt _ (by decide)) (Nat.mod_lt _ (by decide))
theorem ad_append (p : Nat × Nat) (l m : List UInt8) : ad p (l ++ m) = ad (ad p l) m := by simp [ad]
theorem ad_snoc (p : Nat × Nat) (l : List UInt8) (b : UInt8) : ad p (l ++ [b]) = (((ad p l).1 + b.toNat) % 65521, ((ad p l).2 + ((ad p l).1 + b.toNat)) % 65521) := by simp [ad]
theorem halves_lt (c : Nat) : (halves c).1 < 65521 ∧ (halves c).2 < 65521 := ⟨Nat.mod_lt _ (by decide), Nat.mod_lt _ (by decide)⟩
theorem sum_lt (p : Nat × Nat) : sum p < 4294967296 := by unfold sum; omega

/-- the halves, over Int -/
def lo (c : Int) : Int := c % 65536 % 65521
def up (c : Int) : Int := c / 65536 % 65521
theorem lo_bd (c : Int) : 0 ≤ lo c ∧ lo c < 65521 := by unfold lo; omega
theorem up_bd (c : Int) : 0 ≤ up c ∧ up c < 65521 := by unfold up; omega
theorem lo_nat (c : Nat) : lo (c : Int) = ((halves c).1 : Nat) := by unfold lo halves; omega
theorem up_nat (c : Nat) : up (c : Int) = ((halves c).2 : Nat) := by unfold up halves; omega
/-- sums that are joined, and that roll, as the document has them -/
def joined (a b n : Int) : Int :=
  (up a + up b + n % 65521 * ((lo a + 65520) % 65521)) % 65521 * 65536 + (lo a + lo b + 65520) % 65521
def rolled (c n x y : Int) : Int :=
  (up c + 16773376 - n % 65521 * x % 65521 + (lo c + 65521 - x + y) % 65521 + 65520) % 65521 * 65536 + (lo c + 65521 - x + y) % 65521
/-- what the calls answer, errors too -/
def jv (a b n : Int) : Int := if n < 0 ∨ 2147483647 < n then 0 else joined a b n
def je (n : Int) : Int := if n < 0 ∨ 2147483647 < n then 3 else 0
def rv (c n x y : Int) : Int := if n < 1 ∨ 2147483647 < n then 0 else rolled c n x y
def re (n : Int) : Int := if n < 1 ∨ 2147483647 < n then 3 else 0
theorem mul_bd (n z K : Int) (h0 : 0 ≤ n) (h1 : n ≤ K) (hz0 : 0 ≤ z) (hz1 : z ≤ 65520) (hK : K ≤ 2147483647) : 0 ≤ n * z ∧ n * z ≤ 140703128551440 := by
  refine ⟨Int.mul_nonneg h0 hz0, ?_⟩
  have : n * z ≤ 2147483647 * 65520 := Int.mul_le_mul (by omega) hz1 hz0 (by decide)
  omega
theorem mulmod (U n z M : Int) : (U + n * z) % M = (U + n % M * z) % M := by
  have h : U + n * z = U + n % M * z + M * (n / M * z) := by
    have e : n * z = (n % M + M * (n / M)) * z := by rw [Int.emod_add_mul_ediv]
    rw [e, Int.add_mul, Int.mul_assoc]; omega
  rw [h, Int.add_mul_emod_self_left]
theorem joined_eq (a b n : Int) :
    (up a + up b + n * ((lo a + 65521 - 1) % 65521)) % 65521 * 65536 + (lo a + 65521 - 1 + lo b) % 65521 = joined a b n := by
  unfold joined
  have e : lo a + 65521 - 1 = lo a + 65520 := by omega
  rw [e, mulmod]
  omega
theorem rolled_eq (c n x y : Int) (_h0 : 0 ≤ x) (_h1 : x < 256) (_h2 : 0 ≤ y) (_h3 : y < 256) :
    (up c + (4293001441 - (n % 65521 * x % 65521 + 1)) + (lo c + (65521 - x % 65521) + y)) % 65521 * 65536 + (lo c + (65521 - x % 65521) + y) % 65521 = rolled c n x y := by
  unfold rolled
  generalize n % 65521 * x = p
  have := lo_bd c
  have := up_bd c
  omega

/-- the same by weights -/
def tot : List UInt8 → Nat | [] => 0 | b :: l => b.toNat + tot l
def wt : Nat → List UInt8 → Nat | _, [] => 0 | n, b :: l => n % 65521 * b.toNat + wt (n - 1) l
theorem tot_snoc (l : List UInt8) (b : UInt8) : tot (l ++ [b]) = tot l + b.toNat := by
  induction l with
  | nil => simp [tot]
  | cons a l ih => simp only [List.cons_append, tot, ih]; omega
theorem tot_le (l : List UInt8) : tot l ≤ 255 * l.length := by
  induction l with
  | nil => simp [tot]
  | cons a l ih => have := a.toNat_lt; simp only [tot, List.length_cons]; omega
theorem wt_snoc (n : Nat) (l : List UInt8) (b : UInt8) : wt n (l ++ [b]) = wt n l + (n - l.length) % 65521 * b.toNat := by
  induction l generalizing n with
  | nil => simp [wt]
  | cons a l ih =>
    simp only [List.cons_append, wt, ih, List.length_cons]
    rw [show n - 1 - l.length = n - (l.length + 1) from by omega]; omega
theorem natmul (U a z : Nat) : (U + a % 65521 * z) % 65521 = (U + a * z) % 65521 := by
  conv => lhs; rw [Nat.add_mod, Nat.mul_mod, Nat.mod_mod, ← Nat.mul_mod, ← Nat.add_mod]
theorem natmul' (U a z : Nat) : (U + a * (z % 65521)) % 65521 = (U + a * z) % 65521 := by
  conv => lhs; rw [Nat.add_mod, Nat.mul_mod, Nat.mod_mod, ← Nat.mul_mod, ← Nat.add_mod]
theorem ad_fst (p : Nat × Nat) (l : List UInt8) (h1 : p.1 < 65521) : (ad p l).1 = (p.1 + tot l) % 65521 := by
  induction l generalizing p with
  | nil => simp [ad, tot]; omega
  | cons b l ih =>
    have := ih ((p.1 + b.toNat) % 65521, (p.2 + (p.1 + b.toNat)) % 65521) (Nat.mod_lt _ (by decide))
    show (ad _ l).1 = _
    rw [this, tot]; simp only; omega
theorem ad_snd (p : Nat × Nat) (l : List UInt8) (h2 : p.2 < 65521) : (ad p l).2 = (p.2 + l.length * p.1 + wt l.length l) % 65521 := by
  induction l generalizing p with
  | nil => simp [ad, wt]; omega
  | cons b l ih =>
    have := ih ((p.1 + b.toNat) % 65521, (p.2 + (p.1 + b.toNat)) % 65521) (Nat.mod_lt _ (by decide))
    show (ad _ l).2 = _
    rw [this, wt]; simp only [List.length_cons, Nat.add_sub_cancel]
    have e1 : (p.2 + (p.1 + b.toNat)) % 65521 + l.length * ((p.1 + b.toNat) % 65521) + wt l.length l = ((p.2 + (p.1 + b.toNat)) % 65521 + wt l.length l) + l.length * ((p.1 + b.toNat) % 65521) := by omega
    have e2 : p.2 + (l.length + 1) * p.1 + ((l.length + 1) % 65521 * b.toNat + wt l.length l) = (p.2 + (l.length + 1) * p.1 + wt l.length l) + (l.length + 1) % 65521 * b.toNat := by omega
    rw [e1, natmul', e2, natmul]
    have e3 : (l.length + 1) * p.1 = l.length * p.1 + p.1 := Nat.succ_mul _ _
    have e4 : (l.length + 1) * b.toNat = l.length * b.toNat + b.toNat := Nat.succ_mul _ _
    have e5 : l.length * (p.1 + b.toNat) = l.length * p.1 + l.length * b.toNat := Nat.mul_add _ _ _
    rw [e3, e4, e5]; omega
/-- what the weights' loop ends with is the text's sum -/
theorem more_wt (c u : Nat) (l : List UInt8) (hu : u % 65521 = ((halves c).2 + l.length % 65521 * (halves c).1 + wt l.length l) % 65521) :
    u % 65521 * 65536 + ((halves c).1 + tot l) % 65521 = more c l := by
  have hl := halves_lt c
  have e1 := ad_fst (halves c) l hl.1
  have e2 := ad_snd (halves c) l hl.2
  have e3 : (halves c).2 + l.length % 65521 * (halves c).1 + wt l.length l = ((halves c).2 + wt l.length l) + l.length % 65521 * (halves c).1 := by omega
  have e4 : (halves c).2 + l.length * (halves c).1 + wt l.length l = ((halves c).2 + wt l.length l) + l.length * (halves c).1 := by omega
  rw [e3, natmul, ← e4, ← e2] at hu
  unfold more sum
  rw [e1, hu]; omega

end Hy.Adler
