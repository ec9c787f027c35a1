/- Adler: the document's laws, over lists. No program in sight. -/
import Derived.Test.YtiamfjfbmgijhaaAdl
namespace Hy.Adler
theorem halves_more (l : List UInt8) : halves (more 1 l) = ad (halves 1) l := by
  have h := ad_lt (halves 1) l (halves_lt 1).1 (halves_lt 1).2
  unfold more sum
  generalize ad (halves 1) l = p at *
  obtain ⟨a, b⟩ := p
  simp only [halves] at *
  apply Prod.ext <;> simp only <;> omega
theorem more_more (l m : List UInt8) : more (more 1 l) m = more 1 (l ++ m) := by
  show sum (ad (halves (more 1 l)) m) = sum (ad (halves 1) (l ++ m))
  rw [halves_more, ad_append]
theorem fst1 (l : List UInt8) : (ad (halves 1) l).1 = (1 + tot l) % 65521 := ad_fst _ l (by decide)
theorem snd1 (l : List UInt8) : (ad (halves 1) l).2 = (l.length + wt l.length l) % 65521 := by
  rw [ad_snd _ l (by decide)]; simp [halves]
theorem lo_more (l : List UInt8) : lo (more 1 l : Nat) = ((ad (halves 1) l).1 : Nat) := by rw [lo_nat, halves_more]
theorem up_more (l : List UInt8) : up (more 1 l : Nat) = ((ad (halves 1) l).2 : Nat) := by rw [up_nat, halves_more]
theorem mulmod' (U n z M : Int) : (U + n * (z % M)) % M = (U + n * z) % M := by
  rw [Int.mul_comm n (z % M), ← mulmod, Int.mul_comm z n]
theorem more_joins (l m : List UInt8) (h : m.length ≤ 2147483647) : jv (more 1 l : Nat) (more 1 m : Nat) m.length = (more 1 (l ++ m) : Nat) := by
  unfold jv
  rw [if_neg (by omega)]
  unfold joined
  rw [lo_more, lo_more, up_more, up_more, ← mulmod, mulmod']
  unfold more sum
  rw [ad_append]
  have hp := ad_lt (halves 1) l (halves_lt 1).1 (halves_lt 1).2
  have e1 := ad_fst (ad (halves 1) l) m hp.1
  have e2 := ad_snd (ad (halves 1) l) m hp.2
  rw [e1, e2, fst1 m, snd1 m]
  generalize (ad (halves 1) l).1 = p at *
  generalize (ad (halves 1) l).2 = q at *
  generalize wt m.length m = W at *
  generalize m.length = n at *
  have e3 : (n : Int) * ((p : Int) + 65520) = n * p + n * 65520 := Int.mul_add _ _ _
  have e4 : ((n * p : Nat) : Int) = (n : Int) * p := Int.natCast_mul _ _
  rw [e3]
  generalize (n : Int) * p = np at *
  generalize n * p = np' at *
  omega
theorem wt_up (n : Nat) (l : List UInt8) (h : l.length ≤ n) : wt (n + 1) l % 65521 = (wt n l + tot l) % 65521 := by
  induction l generalizing n with
  | nil => simp [wt, tot]
  | cons b l ih =>
    simp only [List.length_cons] at h
    have := ih (n - 1) (by omega)
    simp only [wt, tot, Nat.add_sub_cancel]
    rw [show n - 1 + 1 = n from by omega] at this
    have e1 : (n + 1) % 65521 * b.toNat + wt n l = wt n l + (n + 1) % 65521 * b.toNat := by omega
    have e2 : n % 65521 * b.toNat + wt (n - 1) l + (b.toNat + tot l) = (wt (n - 1) l + tot l + b.toNat) + n % 65521 * b.toNat := by omega
    rw [e1, natmul, e2, natmul]
    have e4 : (n + 1) * b.toNat = n * b.toNat + b.toNat := Nat.succ_mul _ _
    rw [e4]; omega
theorem rolls_arith (N P W V T a b : Nat) (h1 : V % 65521 = (W + T) % 65521) (_ha : a < 256) (_hb : b < 256) :
    (((N + (P + W)) % 65521 : Nat) + 16773376 - (P : Int) % 65521 + (((1 + (a + T)) % 65521 : Nat) + 65521 - (a : Int) + (b : Int)) % 65521 + 65520) % 65521 * 65536 + (((1 + (a + T)) % 65521 : Nat) + 65521 - (a : Int) + (b : Int)) % 65521
    = (((N + (V + b)) % 65521 % 65521 * 65536 + (1 + (T + b)) % 65521 % 65521 : Nat) : Int) := by
  omega
theorem more_rolls (a b : UInt8) (l : List UInt8) (h : l.length < 2147483647) : rv (more 1 (a :: l) : Nat) ((l.length + 1 : Nat) : Int) a.toNat b.toNat = (more 1 (l ++ [b]) : Nat) := by
  unfold rv
  rw [if_neg (by omega)]
  unfold rolled
  rw [lo_more, up_more, fst1, snd1]
  unfold more sum
  rw [fst1, snd1, wt_snoc, tot_snoc]
  have e1 := wt_up l.length l (Nat.le_refl _)
  have e2 : ((l ++ [b]).length - l.length) % 65521 * b.toNat = b.toNat := by
    rw [show (l ++ [b]).length - l.length = 1 from by simp]; omega
  have e3 : (((l.length + 1 : Nat) : Int) % 65521 * (a.toNat : Int)) = (((l.length + 1) % 65521 * a.toNat : Nat) : Int) := by
    rw [Int.natCast_mul]; rfl
  have e4 : (a :: l).length = l.length + 1 := rfl
  have e5 : (l ++ [b]).length = l.length + 1 := by simp
  rw [e2, e3, e4, e5]
  show _ = _
  simp only [wt, tot, Nat.add_sub_cancel]
  exact rolls_arith _ _ _ _ _ _ _ e1 a.toNat_lt b.toNat_lt
theorem sum_inj (p q : Nat × Nat) (h : sum p = sum q) : p.1 % 65521 = q.1 % 65521 ∧ p.2 % 65521 = q.2 % 65521 := by
  unfold sum at h; omega
theorem more_byte (x y : List UInt8) (b c : UInt8) : (more 1 (x ++ [b] ++ y) = more 1 (x ++ [c] ++ y)) ↔ b = c := by
  constructor
  · intro h
    have h1 := (sum_inj _ _ h).1
    rw [fst1, fst1] at h1
    have e : ∀ l m, tot (l ++ m) = tot l + tot m := fun l m => by
      induction l with
      | nil => simp [tot]
      | cons a l ih => simp only [List.cons_append, tot, ih]; omega
    rw [e, e, e, e] at h1
    simp only [tot] at h1
    have hb := b.toNat_lt
    have hc := c.toNat_lt
    apply UInt8.toNat_inj.1; omega
  · rintro rfl; rfl
theorem more_swap (x y : List UInt8) (b c : UInt8) : (more 1 (x ++ [c] ++ [b] ++ y) = more 1 (x ++ [b] ++ [c] ++ y)) ↔ b = c := by
  constructor
  · intro h
    have h1 := (sum_inj _ _ h).2
    have hp := ad_lt (halves 1) x (halves_lt 1).1 (halves_lt 1).2
    simp only [List.append_assoc] at h1
    rw [ad_append _ x, ad_append _ x] at h1
    generalize ad (halves 1) x = p at *
    obtain ⟨p, q⟩ := p
    simp only [← List.append_assoc] at h1
    rw [ad_append _ _ y, ad_append _ _ y] at h1
    have e : ∀ b c : UInt8, ad (p, q) ([c] ++ [b]) = (((p + c.toNat) % 65521 + b.toNat) % 65521, ((q + (p + c.toNat)) % 65521 + ((p + c.toNat) % 65521 + b.toNat)) % 65521) := fun b c => rfl
    rw [e, e, ad_snd _ _ (Nat.mod_lt _ (by decide)), ad_snd _ _ (Nat.mod_lt _ (by decide))] at h1
    simp only at h1
    have hb := b.toNat_lt
    have hc := c.toNat_lt
    have e5 : ((p + c.toNat) % 65521 + b.toNat) % 65521 = ((p + b.toNat) % 65521 + c.toNat) % 65521 := by omega
    rw [e5] at h1
    generalize y.length * (((p + b.toNat) % 65521 + c.toNat) % 65521) = L at *
    apply UInt8.toNat_inj.1; omega
  · rintro rfl; rfl
end Hy.Adler
