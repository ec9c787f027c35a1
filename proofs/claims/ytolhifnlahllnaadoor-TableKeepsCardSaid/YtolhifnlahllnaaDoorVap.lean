/- Vary: plain words and laws. No program in sight. -/
import Derived.Test.YtolhifnlahllnaaDoorBase
import Derived.Test.YtolhifnlahllnaaDoorNum
import Derived.Lib.BitFns
import GoSem.Op.String
namespace Hy.Vary
open Go

/-! ### how many bits -/
theorem bitLenAux_gt : ∀ (f x : Nat), x < 2 ^ f → x < 2 ^ Lib.bitLenAux f x
  | 0, x, h => by simpa [Lib.bitLenAux] using h
  | f + 1, x, h => by
    simp only [Lib.bitLenAux]
    split
    · subst x; simp
    · have := bitLenAux_gt f (x / 2) (by rw [Nat.pow_succ] at h; omega)
      rw [Nat.add_comm, Nat.pow_succ]; omega
theorem bitLen_gt (x : Nat) (h : x < 2 ^ 64) : x < 2 ^ Lib.bitLen x := bitLenAux_gt 64 x h
theorem bitLen_le_iff (x k : Nat) (h : x < 2 ^ 64) (hk : k ≤ 64) : Lib.bitLen x ≤ k ↔ x < 2 ^ k :=
  ⟨fun hb => Nat.lt_of_lt_of_le (bitLen_gt x h) (Nat.pow_le_pow_right (by decide) hb), Lib.bitLen_le x k hk⟩

/-- how many bytes stand behind the first one -/
@[irreducible] def beh (n : Nat) : Nat := min ((Lib.bitLen n - 1) / 7) 8
theorem beh_eq (n : Nat) : beh n = min ((Lib.bitLen n - 1) / 7) 8 := by unfold beh; rfl
theorem beh_le8 (n : Nat) : beh n ≤ 8 := by rw [beh_eq]; omega
theorem beh_le (n k : Nat) (hn : n < 2 ^ 64) (hk : k < 8) : beh n ≤ k ↔ n < 2 ^ (7 * (k + 1)) := by
  rw [← bitLen_le_iff n _ hn (by omega), beh_eq]; omega
theorem beh_mono {a b : Nat} (ha : a < 2 ^ 64) (hb : b < 2 ^ 64) (h : a ≤ b) : beh a ≤ beh b := by
  rcases Nat.lt_or_ge (beh b) 8 with h8 | h8
  · rw [beh_le a _ ha h8]
    have := (beh_le b (beh b) hb h8).1 (Nat.le_refl _)
    omega
  · exact Nat.le_trans (beh_le8 a) h8
theorem beh_of (n i : Nat) (hn : n < 2 ^ 64) (hi : i < 8) (h1 : i = 0 ∨ 128 ^ i ≤ n) (h2 : n < 128 ^ (i + 1)) : beh n = i := by
  have hp : ∀ j, (2 : Nat) ^ (7 * j) = 128 ^ j := fun j => by rw [Nat.pow_mul]
  have hle : beh n ≤ i := (beh_le n i hn hi).2 (by rw [hp]; exact h2)
  rcases h1 with h1 | h1
  · omega
  · rcases Nat.lt_or_ge (beh n) i with h3 | h3
    · have := (beh_le n (i - 1) hn (by omega)).1 (by omega)
      rw [hp, show i - 1 + 1 = i from by omega] at this
      omega
    · omega
theorem beh_of8 (n : Nat) (hn : n < 2 ^ 64) (h : 128 ^ 8 ≤ n) : beh n = 8 := by
  have h8 := beh_le8 n
  rcases Nat.lt_or_ge (beh n) 8 with h3 | h3
  · have := (beh_le n 7 hn (by omega)).1 (by omega)
    omega
  · omega
/-- what is known of n by the count of its bytes -/
theorem beh_cases (n : Nat) (hn : n < 2 ^ 64) : (beh n = 0 ∧ n < 128) ∨ (beh n = 1 ∧ 128 ≤ n ∧ n < 16384) ∨ (beh n = 2 ∧ 16384 ≤ n ∧ n < 2097152) ∨ (beh n = 3 ∧ 2097152 ≤ n ∧ n < 268435456) ∨ (beh n = 4 ∧ 268435456 ≤ n ∧ n < 34359738368)
    ∨ (beh n = 5 ∧ 34359738368 ≤ n ∧ n < 4398046511104) ∨ (beh n = 6 ∧ 4398046511104 ≤ n ∧ n < 562949953421312) ∨ (beh n = 7 ∧ 562949953421312 ≤ n ∧ n < 72057594037927936) ∨ (beh n = 8 ∧ 72057594037927936 ≤ n) := by
  have hk := beh_le8 n
  have up : ∀ k, k < 8 → (beh n ≤ k ↔ n < 2 ^ (7 * (k + 1))) := fun k h => beh_le n k hn h
  generalize beh n = b at *
  have hb : b = 0 ∨ b = 1 ∨ b = 2 ∨ b = 3 ∨ b = 4 ∨ b = 5 ∨ b = 6 ∨ b = 7 ∨ b = 8 := by omega
  rcases hb with rfl | rfl | rfl | rfl | rfl | rfl | rfl | rfl | rfl
  · have h1 := (up 0 (by decide)).1 (Nat.le_refl _); simp only [Nat.reduceAdd, Nat.reduceMul, Nat.reducePow] at h1; clear up; omega
  · have h1 := (up 1 (by decide)).1 (Nat.le_refl _); have h2 := mt (up 0 (by decide)).2 (by decide); simp only [Nat.reduceAdd, Nat.reduceMul, Nat.reducePow] at h1 h2; clear up; omega
  · have h1 := (up 2 (by decide)).1 (Nat.le_refl _); have h2 := mt (up 1 (by decide)).2 (by decide); simp only [Nat.reduceAdd, Nat.reduceMul, Nat.reducePow] at h1 h2; clear up; omega
  · have h1 := (up 3 (by decide)).1 (Nat.le_refl _); have h2 := mt (up 2 (by decide)).2 (by decide); simp only [Nat.reduceAdd, Nat.reduceMul, Nat.reducePow] at h1 h2; clear up; omega
  · have h1 := (up 4 (by decide)).1 (Nat.le_refl _); have h2 := mt (up 3 (by decide)).2 (by decide); simp only [Nat.reduceAdd, Nat.reduceMul, Nat.reducePow] at h1 h2; clear up; omega
  · have h1 := (up 5 (by decide)).1 (Nat.le_refl _); have h2 := mt (up 4 (by decide)).2 (by decide); simp only [Nat.reduceAdd, Nat.reduceMul, Nat.reducePow] at h1 h2; clear up; omega
  · have h1 := (up 6 (by decide)).1 (Nat.le_refl _); have h2 := mt (up 5 (by decide)).2 (by decide); simp only [Nat.reduceAdd, Nat.reduceMul, Nat.reducePow] at h1 h2; clear up; omega
  · have h1 := (up 7 (by decide)).1 (Nat.le_refl _); have h2 := mt (up 6 (by decide)).2 (by decide); simp only [Nat.reduceAdd, Nat.reduceMul, Nat.reducePow] at h1 h2; clear up; omega
  · have h2 := mt (up 7 (by decide)).2 (by decide); simp only [Nat.reduceAdd, Nat.reduceMul, Nat.reducePow] at h2; clear up; omega

/-! ### the greatest byte first -/
def be (n : Nat) : Nat → List UInt8
  | 0 => []
  | k + 1 => be (n / 256) k ++ [UInt8.ofNat n]
def unbe (a : Nat) (l : List UInt8) : Nat := l.foldl (fun n b => n * 256 + b.toNat) a
theorem be_len (n k : Nat) : (be n k).length = k := by induction k generalizing n with
  | zero => rfl
  | succ k ih => simp [be, ih]
theorem be_cons (n k : Nat) : be n (k + 1) = UInt8.ofNat (n / 256 ^ k) :: be n k := by
  induction k generalizing n with
  | zero => simp [be]
  | succ k ih => rw [be, ih, Nat.div_div_eq_div_mul, ← Nat.pow_succ']; rfl
theorem be_get (n k j : Nat) (h : j < k) : (be n k)[j]? = some (UInt8.ofNat (n / 256 ^ (k - 1 - j))) := by
  induction k generalizing j with
  | zero => omega
  | succ k ih =>
    rw [be_cons]
    cases j with
    | zero => simp
    | succ j => rw [List.getElem?_cons_succ, ih j (by omega), show k + 1 - 1 - (j + 1) = k - 1 - j from by omega]
theorem be_mod (c n k : Nat) : be (c * 256 ^ k + n) k = be n k := by
  induction k generalizing n with
  | zero => rfl
  | succ k ih =>
    have e0 : c * 256 ^ (k + 1) = 256 * (c * 256 ^ k) := by rw [Nat.pow_succ', Nat.mul_left_comm]
    have e1 : (c * 256 ^ (k + 1) + n) / 256 = c * 256 ^ k + n / 256 := by rw [e0]; generalize c * 256 ^ k = q; omega
    have e2 : UInt8.ofNat (c * 256 ^ (k + 1) + n) = UInt8.ofNat n := by
      apply UInt8.toNat.inj
      rw [UInt8.toNat_ofNat', UInt8.toNat_ofNat', e0]; generalize c * 256 ^ k = q; omega
    rw [be, be, e1, e2, ih]
theorem unbe_snoc (a : Nat) (l : List UInt8) (b : UInt8) : unbe a (l ++ [b]) = unbe a l * 256 + b.toNat := by simp [unbe]
theorem unbe_cons (a : Nat) (b : UInt8) (l : List UInt8) : unbe a (b :: l) = unbe (a * 256 + b.toNat) l := rfl
theorem unbe_app (a : Nat) (l m : List UInt8) : unbe a (l ++ m) = unbe (unbe a l) m := by simp [unbe]
theorem unbe_be (a n k : Nat) : unbe a (be n k) = a * 256 ^ k + n % 256 ^ k := by
  induction k generalizing n with
  | zero => simp [be, unbe, Nat.mod_one]
  | succ k ih =>
    have e0 : a * 256 ^ (k + 1) = 256 * (a * 256 ^ k) := by rw [Nat.pow_succ', Nat.mul_left_comm]
    have e1 : n % 256 ^ (k + 1) = n % 256 + 256 * (n / 256 % 256 ^ k) := by rw [Nat.pow_succ']; exact Nat.mod_mul
    rw [be, unbe_snoc, ih, UInt8.toNat_ofNat', e0, e1]
    generalize a * 256 ^ k = q
    generalize n / 256 % 256 ^ k = r
    omega
theorem unbe_eq (a : Nat) (l : List UInt8) : unbe a l = a * 256 ^ l.length + unbe 0 l := by
  induction l generalizing a with
  | nil => simp [unbe]
  | cons b l ih =>
    rw [unbe_cons, unbe_cons, ih, ih (0 * 256 + b.toNat), List.length_cons, Nat.pow_succ']
    simp only [Nat.zero_mul, Nat.zero_add, Nat.add_mul]
    rw [Nat.mul_assoc]; omega
theorem unbe_lt (l : List UInt8) : unbe 0 l < 256 ^ l.length := by
  induction l with
  | nil => simp [unbe]
  | cons b l ih =>
    rw [unbe_cons, unbe_eq, List.length_cons, Nat.pow_succ']
    have hb : b.toNat < 256 := b.toNat_lt
    have : (0 * 256 + b.toNat) * 256 ^ l.length ≤ 255 * 256 ^ l.length := Nat.mul_le_mul_right _ (by omega)
    omega
theorem unbe_lt' (a r : Nat) (l : List UInt8) (h : a < r) : unbe a l < r * 256 ^ l.length := by
  rw [unbe_eq]
  have := unbe_lt l
  have h2 : (a + 1) * 256 ^ l.length ≤ r * 256 ^ l.length := Nat.mul_le_mul_right _ h
  rw [Nat.add_mul, Nat.one_mul] at h2
  omega
theorem unbe_div (a : Nat) (l : List UInt8) : unbe a l / 256 ^ l.length = a := by
  rw [unbe_eq, Nat.mul_comm, Nat.mul_add_div (Nat.pow_pos (by decide)), Nat.div_eq_of_lt (unbe_lt l), Nat.add_zero]
theorem be_unbe (a : Nat) (l : List UInt8) : be (unbe a l) l.length = l := by
  induction l generalizing a with
  | nil => rfl
  | cons b l ih =>
    rw [List.length_cons, be_cons, unbe_cons, unbe_div, ih]
    congr 1
    apply UInt8.toNat.inj
    rw [UInt8.toNat_ofNat']
    have hb : b.toNat < 256 := b.toNat_lt
    omega

theorem shr_cast (n i : Nat) : (n : Int) / 2 ^ (8 * i) % 256 = ((n / 256 ^ i % 256 : Nat) : Int) := by
  rw [show (256 : Nat) ^ i = 2 ^ (8 * i) from by rw [Nat.pow_mul]]
  simp
/-! ### a number's bytes -/
def lead (k : Nat) : Nat := 256 - 2 ^ (8 - k)
@[irreducible] def wr (n : Nat) : List UInt8 := UInt8.ofNat (lead (beh n) + n / 256 ^ beh n) :: be n (beh n)
theorem wr_eq (n : Nat) : wr n = UInt8.ofNat (lead (beh n) + n / 256 ^ beh n) :: be n (beh n) := by unfold wr; rfl
theorem wr_len (n : Nat) : (wr n).length = beh n + 1 := by rw [wr_eq]; simp [be_len]
theorem wr_ne (n : Nat) : wr n ≠ [] := by rw [wr_eq]; simp
theorem wr_be (n : Nat) : wr n = be (lead (beh n) * 256 ^ beh n + n) (beh n + 1) := by
  rw [be_cons, be_mod, wr_eq, Nat.mul_comm, Nat.mul_add_div (Nat.pow_pos (by decide))]
/-- the first byte's part of n -/
theorem top_lt (n : Nat) (hn : n < 2 ^ 64) : n / 256 ^ beh n < 2 ^ (7 - beh n) := by
  rcases beh_cases n hn with ⟨e, h⟩ | ⟨e, h⟩ | ⟨e, h⟩ | ⟨e, h⟩ | ⟨e, h⟩ | ⟨e, h⟩ | ⟨e, h⟩ | ⟨e, h⟩ | ⟨e, h⟩ <;> rw [e] <;> simp only [Nat.reducePow, Nat.reduceSub] at * <;> omega
theorem lead_add : ∀ k : Fin 9, lead k.val + 2 ^ (7 - k.val) ≤ 256 ∧ (k.val < 8 → lead k.val + 2 ^ (7 - k.val) = lead (k.val + 1)) := by decide
theorem lead_next : ∀ k : Fin 8, lead (k.val + 1) = lead k.val / 2 + 128 := by decide
theorem lead_lt (k : Nat) : lead k ≤ 255 := by unfold lead; have := Nat.two_pow_pos (8 - k); omega
theorem lead_mono : ∀ k j : Fin 9, k.val ≤ j.val → lead k.val ≤ lead j.val := by decide
theorem or_lead : ∀ (k : Fin 8) (r : Fin 128), r.val < 2 ^ (7 - k.val) → bits .or .u8 (255 * 2 ^ (8 - k.val) % 256) (r.val : Int) = ((lead k.val + r.val : Nat) : Int) := by decide +kernel
theorem or_first (n k : Nat) (hk : k < 8) (h : n / 256 ^ k < 2 ^ (7 - k)) : bits .or .u8 (255 * 2 ^ (8 - k) % 256) ((n : Int) / 2 ^ (8 * k) % 256) = ((lead k + n / 256 ^ k : Nat) : Int) := by
  have h1 : 2 ^ (7 - k) ≤ 2 ^ 7 := Nat.pow_le_pow_right (by decide) (by omega)
  have h2 : n / 256 ^ k < 128 := by omega
  rw [shr_cast, Nat.mod_eq_of_lt (by omega)]
  exact or_lead ⟨k, hk⟩ ⟨n / 256 ^ k, h2⟩ h
theorem first_lt (n : Nat) (hn : n < 2 ^ 64) : lead (beh n) + n / 256 ^ beh n < 256 := by
  have h1 := top_lt n hn
  have h2 := (lead_add ⟨beh n, by have := beh_le8 n; omega⟩).1
  simp only at h2
  omega

/-! ### how many ones a byte begins with -/
def ones (c : Nat) : Nat := 8 - Lib.bitLen (255 - c)
theorem ones_all : ∀ c : Fin 256, ones c.val ≤ 8 ∧ lead (ones c.val) ≤ c.val ∧ c.val < lead (ones c.val) + 2 ^ (7 - ones c.val) ∧ (ones c.val < 8 → c.val &&& (127 >>> ones c.val) = c.val - lead (ones c.val)) := by decide +kernel
theorem ones_and_all : ∀ c : Fin 256, ones c.val < 8 → bits .and .u64 (c.val : Int) (127 / 2 ^ ones c.val) = ((c.val - lead (ones c.val) : Nat) : Int) := by decide +kernel
theorem ones_and (c : UInt8) (h : ones c.toNat < 8) : bits .and .u64 (c.toNat : Int) (127 / 2 ^ ones c.toNat) = ((c.toNat - lead (ones c.toNat) : Nat) : Int) := ones_and_all ⟨c.toNat, c.toNat_lt⟩ h
theorem ones_fact (c : UInt8) : ones c.toNat ≤ 8 ∧ lead (ones c.toNat) ≤ c.toNat ∧ c.toNat < lead (ones c.toNat) + 2 ^ (7 - ones c.toNat) ∧ (ones c.toNat < 8 → c.toNat &&& (127 >>> ones c.toNat) = c.toNat - lead (ones c.toNat)) :=
  ones_all ⟨c.toNat, c.toNat_lt⟩
theorem ones_of_all : ∀ (k : Fin 9) (c : Fin 256), lead k.val ≤ c.val → c.val < lead k.val + 2 ^ (7 - k.val) → ones c.val = k.val := by decide +kernel
theorem ones_of (k c : Nat) (hk : k ≤ 8) (hc : c < 256) (h1 : lead k ≤ c) (h2 : c < lead k + 2 ^ (7 - k)) : ones c = k := ones_of_all ⟨k, by omega⟩ ⟨c, hc⟩ h1 h2

/-- what is read: the number, how many bytes it has, what is wrong (5: none, 1: not of its form) -/
@[irreducible] def rd (s : List UInt8) : Nat × Nat × Nat :=
  match s with
  | [] => (0, 0, 5)
  | c :: t =>
    if t.length < ones c.toNat then (0, 0, 5) else
      if beh (unbe (c.toNat - lead (ones c.toNat)) (t.take (ones c.toNat))) = ones c.toNat then (unbe (c.toNat - lead (ones c.toNat)) (t.take (ones c.toNat)), ones c.toNat + 1, 0) else (0, 0, 1)
theorem rd_nil : rd [] = (0, 0, 5) := by unfold rd; rfl
theorem rd_short (c : UInt8) (t : List UInt8) (h : t.length < ones c.toNat) : rd (c :: t) = (0, 0, 5) := by unfold rd; simp [h]
theorem rd_cons (c : UInt8) (t : List UInt8) (h : ¬ t.length < ones c.toNat) :
    rd (c :: t) = if beh (unbe (c.toNat - lead (ones c.toNat)) (t.take (ones c.toNat))) = ones c.toNat then (unbe (c.toNat - lead (ones c.toNat)) (t.take (ones c.toNat)), ones c.toNat + 1, 0) else (0, 0, 1) := by unfold rd; simp [h]
theorem num_lt (c : UInt8) (t : List UInt8) (h : ¬ t.length < ones c.toNat) : unbe (c.toNat - lead (ones c.toNat)) (t.take (ones c.toNat)) < 2 ^ 64 := by
  obtain ⟨h8, h1, h2, _⟩ := ones_fact c
  have h3 := unbe_lt' (c.toNat - lead (ones c.toNat)) (2 ^ (7 - ones c.toNat)) (t.take (ones c.toNat)) (by omega)
  rw [List.length_take, Nat.min_eq_left (by omega)] at h3
  generalize ones c.toNat = k at *
  refine Nat.lt_of_lt_of_le h3 ?_
  have : k = 0 ∨ k = 1 ∨ k = 2 ∨ k = 3 ∨ k = 4 ∨ k = 5 ∨ k = 6 ∨ k = 7 ∨ k = 8 := by omega
  rcases this with rfl | rfl | rfl | rfl | rfl | rfl | rfl | rfl | rfl <;> decide
theorem part_le (c : UInt8) (t : List UInt8) (i : Nat) (h : ¬ t.length < ones c.toNat) (hi : i < ones c.toNat) : unbe (c.toNat - lead (ones c.toNat)) ((t.take (ones c.toNat)).take i) ≤ 72057594037927935 := by
  obtain ⟨h8, h1, h2, _⟩ := ones_fact c
  have h3 := unbe_lt' (c.toNat - lead (ones c.toNat)) (2 ^ (7 - ones c.toNat)) ((t.take (ones c.toNat)).take i) (by omega)
  rw [List.length_take, List.length_take, Nat.min_eq_left (by omega)] at h3
  generalize ones c.toNat = k at *
  have h4 : 256 ^ i ≤ 256 ^ (k - 1) := Nat.pow_le_pow_right (by decide) (by omega)
  have h5 : 2 ^ (7 - k) * 256 ^ i ≤ 2 ^ (7 - k) * 256 ^ (k - 1) := Nat.mul_le_mul_left _ h4
  have h6 : 2 ^ (7 - k) * 256 ^ (k - 1) ≤ 72057594037927936 := by
    have : k = 0 ∨ k = 1 ∨ k = 2 ∨ k = 3 ∨ k = 4 ∨ k = 5 ∨ k = 6 ∨ k = 7 ∨ k = 8 := by omega
    rcases this with rfl | rfl | rfl | rfl | rfl | rfl | rfl | rfl | rfl <;> decide
  omega
theorem wr_num (c : UInt8) (t : List UInt8) (h : ¬ t.length < ones c.toNat) (hb : beh (unbe (c.toNat - lead (ones c.toNat)) (t.take (ones c.toNat))) = ones c.toNat) :
    wr (unbe (c.toNat - lead (ones c.toNat)) (t.take (ones c.toNat))) = c :: t.take (ones c.toNat) := by
  obtain ⟨h8, h1, h2, _⟩ := ones_fact c
  have hl : (t.take (ones c.toNat)).length = ones c.toNat := by rw [List.length_take]; omega
  have e1 := unbe_div (c.toNat - lead (ones c.toNat)) (t.take (ones c.toNat))
  have e2 := be_unbe (c.toNat - lead (ones c.toNat)) (t.take (ones c.toNat))
  rw [hl] at e1 e2
  rw [wr_eq, hb, e1, e2]
  congr 1
  apply UInt8.toNat.inj
  rw [UInt8.toNat_ofNat']
  have hc : c.toNat < 256 := c.toNat_lt
  omega
/-- the document's own test -/
theorem wr_num_iff (c : UInt8) (t : List UInt8) (h : ¬ t.length < ones c.toNat) :
    (wr (unbe (c.toNat - lead (ones c.toNat)) (t.take (ones c.toNat))) = (c :: t).take (ones c.toNat + 1)) ↔ beh (unbe (c.toNat - lead (ones c.toNat)) (t.take (ones c.toNat))) = ones c.toNat := by
  refine ⟨fun e => ?_, fun e => by rw [wr_num c t h e]; rfl⟩
  have := congrArg List.length e
  rw [wr_len, List.length_take, List.length_cons] at this
  omega
theorem rd_cases (s : List UInt8) : (rd s = (0, 0, 5)) ∨ (rd s = (0, 0, 1)) ∨ (∃ n k, rd s = (n, k + 1, 0) ∧ k ≤ 8 ∧ k + 1 ≤ s.length ∧ n < 2 ^ 64 ∧ wr n = s.take (k + 1)) := by
  match s with
  | [] => exact .inl rd_nil
  | c :: t =>
    by_cases h : t.length < ones c.toNat
    · exact .inl (rd_short c t h)
    · rw [rd_cons c t h]
      by_cases hb : beh (unbe (c.toNat - lead (ones c.toNat)) (t.take (ones c.toNat))) = ones c.toNat
      · rw [if_pos hb]
        exact .inr (.inr ⟨_, _, rfl, (ones_fact c).1, by simp only [List.length_cons]; omega, num_lt c t h, by rw [wr_num c t h hb]; rfl⟩)
      · rw [if_neg hb]; exact .inr (.inl rfl)
theorem wr_head (n : Nat) (hn : n < 2 ^ 64) : ∃ c : UInt8, wr n = c :: be n (beh n) ∧ ones c.toNat = beh n ∧ c.toNat - lead (beh n) = n / 256 ^ beh n := by
  have h1 := first_lt n hn
  have e : (UInt8.ofNat (lead (beh n) + n / 256 ^ beh n)).toNat = lead (beh n) + n / 256 ^ beh n := by rw [UInt8.toNat_ofNat']; exact Nat.mod_eq_of_lt h1
  refine ⟨_, wr_eq n, ?_, by rw [e]; exact Nat.add_sub_cancel_left _ _⟩
  rw [e]
  exact ones_of _ _ (beh_le8 n) h1 (Nat.le_add_right _ _) (Nat.add_lt_add_left (top_lt n hn) _)
/-- what is written is read -/
theorem rd_wr (n : Nat) (b : List UInt8) (hn : n < 2 ^ 64) : rd (wr n ++ b) = (n, beh n + 1, 0) := by
  obtain ⟨c, e, ho, ht⟩ := wr_head n hn
  have hl : (be n (beh n) ++ b).take (beh n) = be n (beh n) := by rw [List.take_append_of_le_length (by rw [be_len]; omega), List.take_of_length_le (by rw [be_len]; omega)]
  have en : unbe (n / 256 ^ beh n) (be n (beh n)) = n := by rw [unbe_be, Nat.mul_comm]; exact Nat.div_add_mod _ _
  rw [e, List.cons_append, rd_cons _ _ (by rw [ho, List.length_append, be_len]; omega), ho, hl, ht, en, if_pos rfl]
/-- each beginning ends too early -/
theorem rd_cut (n k : Nat) (hn : n < 2 ^ 64) (hk : k < (wr n).length) : rd ((wr n).take k) = (0, 0, 5) := by
  obtain ⟨c, e, ho, ht⟩ := wr_head n hn
  rw [wr_len] at hk
  cases k with
  | zero => exact rd_nil
  | succ k => rw [e, List.take_succ_cons]; exact rd_short _ _ (by rw [ho, List.length_take, be_len]; omega)

/-! ### the order -/
theorem less_append (p x y : List UInt8) : Op.bytesLess (p ++ x) (p ++ y) = Op.bytesLess x y := by
  induction p with
  | nil => rfl
  | cons a p ih => simp [Op.bytesLess, ih, UInt8.lt_irrefl]
theorem less_self (x : List UInt8) : Op.bytesLess x x = false := by
  induction x with
  | nil => rfl
  | cons a x ih => simp [Op.bytesLess, ih, UInt8.lt_irrefl]
/-- of two texts as long as each other -/
theorem less_iff (u v : List UInt8) : ∀ (x y : List UInt8), x.length = y.length → unbe 0 x < unbe 0 y → Op.bytesLess (x ++ u) (y ++ v) = true ∧ Op.bytesLess (y ++ v) (x ++ u) = false
  | [], [], _, h => by simp [unbe] at h
  | a :: x, b :: y, hl, h => by
    have hl' : x.length = y.length := by simpa using hl
    rw [unbe_cons, unbe_cons, unbe_eq, unbe_eq (0 * 256 + b.toNat), ← hl'] at h
    have hx := unbe_lt x
    have hy := unbe_lt y
    rw [← hl'] at hy
    simp only [Nat.zero_mul, Nat.zero_add] at h
    have hab : a.toNat < b.toNat ∨ (a = b ∧ unbe 0 x < unbe 0 y) := by
      rcases Nat.lt_trichotomy a.toNat b.toNat with h1 | h1 | h1
      · exact .inl h1
      · right; refine ⟨UInt8.toNat.inj h1, ?_⟩; rw [h1] at h; omega
      · exfalso
        have : (b.toNat + 1) * 256 ^ x.length ≤ a.toNat * 256 ^ x.length := Nat.mul_le_mul_right _ h1
        rw [Nat.add_mul, Nat.one_mul] at this
        omega
    rcases hab with h1 | ⟨rfl, h1⟩
    · have e1 : decide (a < b) = true := by rw [decide_eq_true_eq, UInt8.lt_iff_toNat_lt]; exact h1
      have e2 : decide (b < a) = false := by rw [decide_eq_false_iff_not, UInt8.lt_iff_toNat_lt]; omega
      have e3 : (b == a) = false := by rw [beq_eq_false_iff_ne]; rintro rfl; omega
      simp [Op.bytesLess, e1, e2, e3]
    · have := less_iff u v x y hl' h1
      simp [Op.bytesLess, this, UInt8.lt_irrefl]
theorem wr_less (a b : Nat) (u v : List UInt8) (ha : a < 2 ^ 64) (hb : b < 2 ^ 64) (h : a < b) : Op.bytesLess (wr a ++ u) (wr b ++ v) = true ∧ Op.bytesLess (wr b ++ v) (wr a ++ u) = false := by
  have hm := beh_mono ha hb (Nat.le_of_lt h)
  rcases Nat.lt_or_ge (beh a) (beh b) with hlt | hge
  · obtain ⟨c, ec, hoc, htc⟩ := wr_head a ha
    obtain ⟨d, ed, hod, htd⟩ := wr_head b hb
    have k8 := beh_le8 b
    obtain ⟨_, _, h3, _⟩ := ones_fact c
    obtain ⟨_, h4, _, _⟩ := ones_fact d
    rw [hoc] at h3
    rw [hod] at h4
    have h5 := (lead_add ⟨beh a, by omega⟩).2 (by show beh a < 8; omega)
    have h6 := lead_mono ⟨beh a + 1, by omega⟩ ⟨beh b, by omega⟩ (by show beh a + 1 ≤ beh b; omega)
    simp only at h5 h6
    have hcd : c.toNat < d.toNat := by omega
    have e1 : decide (c < d) = true := by rw [decide_eq_true_eq, UInt8.lt_iff_toNat_lt]; exact hcd
    have e2 : decide (d < c) = false := by rw [decide_eq_false_iff_not, UInt8.lt_iff_toNat_lt]; omega
    have e3 : (d == c) = false := by rw [beq_eq_false_iff_ne]; rintro rfl; omega
    rw [ec, ed]
    simp [Op.bytesLess, e1, e2, e3]
  · have e : beh a = beh b := by omega
    refine less_iff u v _ _ (by rw [wr_len, wr_len, e]) ?_
    have key : ∀ n, n < 2 ^ 64 → unbe 0 (wr n) = lead (beh n) * 256 ^ beh n + n := fun n hn => by
      rw [wr_be, unbe_be, Nat.zero_mul, Nat.zero_add]
      apply Nat.mod_eq_of_lt
      have h1 := first_lt n hn
      have h2 : n < (n / 256 ^ beh n + 1) * 256 ^ beh n := by rw [Nat.mul_comm]; exact Nat.lt_mul_div_succ n (Nat.pow_pos (by decide))
      have h3 : (lead (beh n) + n / 256 ^ beh n + 1) * 256 ^ beh n ≤ 256 * 256 ^ beh n := Nat.mul_le_mul_right _ (by omega)
      rw [Nat.pow_succ']
      rw [Nat.add_assoc, Nat.add_mul] at h3
      omega
    rw [key a ha, key b hb, e]; omega
theorem wr_less_iff (a b : Nat) (ha : a < 2 ^ 64) (hb : b < 2 ^ 64) : Op.bytesLess (wr a) (wr b) = decide (a < b) := by
  rcases Nat.lt_trichotomy a b with h | rfl | h
  · have := (wr_less a b [] [] ha hb h).1; simp only [List.append_nil] at this; rw [this]; simp [h]
  · rw [less_self]; simp
  · have := (wr_less b a [] [] hb ha h).2; simp only [List.append_nil] at this; rw [this]; simp; omega

/-! ### lists -/
@[irreducible] def all (l : List Nat) : List UInt8 := l.flatMap wr
theorem all_nil : all [] = [] := by unfold all; rfl
theorem all_cons (n : Nat) (l : List Nat) : all (n :: l) = wr n ++ all l := by unfold all; rfl
theorem all_snoc (l : List Nat) (n : Nat) : all (l ++ [n]) = all l ++ wr n := by unfold all; simp
theorem all_len (l : List Nat) : (all l).length ≤ 9 * l.length := by
  induction l with
  | nil => simp [all_nil]
  | cons n l ih => rw [all_cons, List.length_append, wr_len, List.length_cons]; have := beh_le8 n; omega
def rdf : Nat → List UInt8 → List Nat × Nat
  | 0, _ => ([], 0)
  | f + 1, s => if s = [] then ([], 0) else if (rd s).2.2 = 0 then ((rd s).1 :: (rdf f (s.drop (rd s).2.1)).1, (rdf f (s.drop (rd s).2.1)).2) else ([], (rd s).2.2)
@[irreducible] def many (s : List UInt8) : List Nat × Nat := rdf s.length s
theorem rdf_nil (f : Nat) : rdf f [] = ([], 0) := by cases f <;> rfl
theorem rd_ok {s : List UInt8} (h : (rd s).2.2 = 0) : 1 ≤ (rd s).2.1 ∧ (rd s).2.1 ≤ s.length ∧ (rd s).2.1 ≤ 9 ∧ (rd s).1 < 2 ^ 64 ∧ wr (rd s).1 = s.take (rd s).2.1 := by
  rcases rd_cases s with e | e | ⟨n, k, e, h8, hk, hn, hw⟩
  · rw [e] at h; cases h
  · rw [e] at h; cases h
  · rw [e]; exact ⟨by simp, hk, by simp; omega, hn, hw⟩
theorem rdf_fuel : ∀ (f : Nat) (s : List UInt8), s.length ≤ f → rdf f s = rdf s.length s
  | 0, s, h => by
    obtain rfl : s = [] := List.length_eq_zero_iff.1 (by omega)
    rfl
  | f + 1, s, h => by
    by_cases hs : s = []
    · subst hs; rfl
    · obtain ⟨g, hg⟩ : ∃ g, s.length = g + 1 := ⟨s.length - 1, by have := List.length_pos_iff.2 hs; omega⟩
      rw [hg, rdf, rdf, if_neg hs, if_neg hs]
      by_cases he : (rd s).2.2 = 0
      · obtain ⟨h1, h2, _⟩ := rd_ok he
        have hl : (s.drop (rd s).2.1).length ≤ g := by rw [List.length_drop]; omega
        rw [if_pos he, if_pos he, rdf_fuel f _ (by omega), rdf_fuel g _ hl]
      · rw [if_neg he, if_neg he]
theorem many_nil : many [] = ([], 0) := by unfold many; rfl
theorem many_ok (s : List UInt8) (hs : s ≠ []) (h : (rd s).2.2 = 0) : many s = ((rd s).1 :: (many (s.drop (rd s).2.1)).1, (many (s.drop (rd s).2.1)).2) := by
  unfold many
  obtain ⟨g, hg⟩ : ∃ g, s.length = g + 1 := ⟨s.length - 1, by have := List.length_pos_iff.2 hs; omega⟩
  obtain ⟨h1, h2, _⟩ := rd_ok h
  rw [hg, rdf, if_neg hs, if_pos h, rdf_fuel g _ (by rw [List.length_drop]; omega)]
theorem many_bad (s : List UInt8) (hs : s ≠ []) (h : (rd s).2.2 ≠ 0) : many s = ([], (rd s).2.2) := by
  unfold many
  obtain ⟨g, hg⟩ : ∃ g, s.length = g + 1 := ⟨s.length - 1, by have := List.length_pos_iff.2 hs; omega⟩
  rw [hg, rdf, if_neg hs, if_neg h]
theorem many_len (s : List UInt8) : (many s).1.length ≤ s.length := by
  have key : ∀ (f : Nat) (s : List UInt8), s.length ≤ f → (many s).1.length ≤ s.length := by
    intro f
    induction f with
    | zero => intro s h; obtain rfl : s = [] := List.length_eq_zero_iff.1 (by omega); rw [many_nil]; simp
    | succ f ih =>
      intro s h
      by_cases hs : s = []
      · subst hs; rw [many_nil]; simp
      · by_cases he : (rd s).2.2 = 0
        · obtain ⟨h1, h2, _⟩ := rd_ok he
          rw [many_ok s hs he]
          have := ih (s.drop (rd s).2.1) (by rw [List.length_drop]; omega)
          rw [List.length_drop] at this
          simp only [List.length_cons]; omega
        · rw [many_bad s hs he]; simp
  exact key _ s (Nat.le_refl _)
theorem many_all (l : List Nat) (hl : ∀ n ∈ l, n < 2 ^ 64) : many (all l) = (l, 0) := by
  induction l with
  | nil => rw [all_nil, many_nil]
  | cons n l ih =>
    have e := rd_wr n (all l) (hl n (by simp))
    rw [all_cons, many_ok _ (by simp [wr_ne]) (by rw [e]), e]
    have e2 : (wr n ++ all l).drop (beh n + 1) = all l := by rw [← wr_len, List.drop_left]
    simp only
    rw [e2, ih (fun m hm => hl m (by simp [hm]))]
theorem all_less : ∀ (x y : List Nat), (∀ n ∈ x, n < 2 ^ 64) → (∀ n ∈ y, n < 2 ^ 64) → Op.bytesLess (all x) (all y) = numsLess x y
  | x, [], _, _ => by rw [all_nil]; cases all x <;> cases x <;> rfl
  | [], b :: y, _, _ => by
    rw [all_nil, all_cons]
    cases h : wr b ++ all y with
    | nil => simp [wr_ne] at h
    | cons c t => rfl
  | a :: x, b :: y, hx, hy => by
    have ha := hx a (by simp)
    have hb := hy b (by simp)
    rw [all_cons, all_cons]
    rcases Nat.lt_trichotomy a b with h | rfl | h
    · rw [(wr_less a b _ _ ha hb h).1]; simp [numsLess, h]
    · rw [less_append, all_less x y (fun n hn => hx n (by simp [hn])) (fun n hn => hy n (by simp [hn]))]; simp [numsLess]
    · rw [(wr_less b a _ _ hb ha h).2]
      have h1 : ¬ a < b := by omega
      have h2 : ¬ a = b := by omega
      simp [numsLess, h1, h2]
/-- what is read of a whole text -/
@[irreducible] def rl (s : List UInt8) : List Nat := if (many s).2 = 0 then (many s).1 else []
theorem rl_ok (s : List UInt8) (h : (many s).2 = 0) : rl s = (many s).1 := by unfold rl; rw [if_pos h]
theorem rl_bad (s : List UInt8) (h : (many s).2 ≠ 0) : rl s = [] := by unfold rl; rw [if_neg h]
end Hy.Vary
