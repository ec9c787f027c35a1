/- Vary: plain words and laws. No program in sight. Front: plain words and laws. No program in sight. Dict: plain words and laws: books of texts. No program in sight. Texts: the order of lists of bytes. No program in sight. -/
import Derived.Test.YtolhifnlahllnaaGreatDoorGen
import Derived.Test.YtolhifnlahllnaaGreatDoorClx
import Derived.Lib.BitFns
import GoSem.Op.String
import Derived.Lib.SlicesCompact
section
namespace Hy.Vary
open Go

/-! ### how many bits -/
theorem bitLenAux_gt : ∀ (f x : Nat), x < 2 ^ f → x < 2 ^ Lib.bitLenAux f x
  | 0, x, h => by simpa [Lib.bitLenAux] using h
  | f + 1, x, h => by
    simp only [Lib.bitLenAux]
    split
    · subst x; simp
    · have := bitLenAux_gt f (x / 2) (by rw [Nat.pow_succ] at h; omega)
      rw [Nat.add_comm, Nat.pow_succ]; omega
theorem bitLen_gt (x : Nat) (h : x < 2 ^ 64) : x < 2 ^ Lib.bitLen x := bitLenAux_gt 64 x h
theorem bitLen_le_iff (x k : Nat) (h : x < 2 ^ 64) (hk : k ≤ 64) : Lib.bitLen x ≤ k ↔ x < 2 ^ k :=
  ⟨fun hb => Nat.lt_of_lt_of_le (bitLen_gt x h) (Nat.pow_le_pow_right (by decide) hb), Lib.bitLen_le x k hk⟩

/-- how many bytes stand behind the first one -/
@[irreducible] def beh (n : Nat) : Nat := min ((Lib.bitLen n - 1) / 7) 8
theorem beh_eq (n : Nat) : beh n = min ((Lib.bitLen n - 1) / 7) 8 := by unfold beh; rfl
theorem beh_le8 (n : Nat) : beh n ≤ 8 := by rw [beh_eq]; omega
theorem beh_le (n k : Nat) (hn : n < 2 ^ 64) (hk : k < 8) : beh n ≤ k ↔ n < 2 ^ (7 * (k + 1)) := by
  rw [← bitLen_le_iff n _ hn (by omega), beh_eq]; omega
theorem beh_mono {a b : Nat} (ha : a < 2 ^ 64) (hb : b < 2 ^ 64) (h : a ≤ b) : beh a ≤ beh b := by
  rcases Nat.lt_or_ge (beh b) 8 with h8 | h8
  · rw [beh_le a _ ha h8]
    have := (beh_le b (beh b) hb h8).1 (Nat.le_refl _)
    omega
  · exact Nat.le_trans (beh_le8 a) h8
theorem beh_of (n i : Nat) (hn : n < 2 ^ 64) (hi : i < 8) (h1 : i = 0 ∨ 128 ^ i ≤ n) (h2 : n < 128 ^ (i + 1)) : beh n = i := by
  have hp : ∀ j, (2 : Nat) ^ (7 * j) = 128 ^ j := fun j => by rw [Nat.pow_mul]
  have hle : beh n ≤ i := (beh_le n i hn hi).2 (by rw [hp]; exact h2)
  rcases h1 with h1 | h1
  · omega
  · rcases Nat.lt_or_ge (beh n) i with h3 | h3
    · have := (beh_le n (i - 1) hn (by omega)).1 (by omega)
      rw [hp, show i - 1 + 1 = i from by omega] at this
      omega
    · omega
theorem beh_of8 (n : Nat) (hn : n < 2 ^ 64) (h : 128 ^ 8 ≤ n) : beh n = 8 := by
  have h8 := beh_le8 n
  rcases Nat.lt_or_ge (beh n) 8 with h3 | h3
  · have := (beh_le n 7 hn (by omega)).1 (by omega)
    omega
  · omega
/-- what is known of n by the count of its bytes -/
theorem beh_cases (n : Nat) (hn : n < 2 ^ 64) : (beh n = 0 ∧ n < 128) ∨ (beh n = 1 ∧ 128 ≤ n ∧ n < 16384) ∨ (beh n = 2 ∧ 16384 ≤ n ∧ n < 2097152) ∨ (beh n = 3 ∧ 2097152 ≤ n ∧ n < 268435456) ∨ (beh n = 4 ∧ 268435456 ≤ n ∧ n < 34359738368)
    ∨ (beh n = 5 ∧ 34359738368 ≤ n ∧ n < 4398046511104) ∨ (beh n = 6 ∧ 4398046511104 ≤ n ∧ n < 562949953421312) ∨ (beh n = 7 ∧ 562949953421312 ≤ n ∧ n < 72057594037927936) ∨ (beh n = 8 ∧ 72057594037927936 ≤ n) := by
  have hk := beh_le8 n
  have up : ∀ k, k < 8 → (beh n ≤ k ↔ n < 2 ^ (7 * (k + 1))) := fun k h => beh_le n k hn h
  generalize beh n = b at *
  have hb : b = 0 ∨ b = 1 ∨ b = 2 ∨ b = 3 ∨ b = 4 ∨ b = 5 ∨ b = 6 ∨ b = 7 ∨ b = 8 := by omega
  rcases hb with rfl | rfl | rfl | rfl | rfl | rfl | rfl | rfl | rfl
  · have h1 := (up 0 (by decide)).1 (Nat.le_refl _); simp only [Nat.reduceAdd, Nat.reduceMul, Nat.reducePow] at h1; clear up; omega
  · have h1 := (up 1 (by decide)).1 (Nat.le_refl _); have h2 := mt (up 0 (by decide)).2 (by decide); simp only [Nat.reduceAdd, Nat.reduceMul, Nat.reducePow] at h1 h2; clear up; omega
  · have h1 := (up 2 (by decide)).1 (Nat.le_refl _); have h2 := mt (up 1 (by decide)).2 (by decide); simp only [Nat.reduceAdd, Nat.reduceMul, Nat.reducePow] at h1 h2; clear up; omega
  · have h1 := (up 3 (by decide)).1 (Nat.le_refl _); have h2 := mt (up 2 (by decide)).2 (by decide); simp only [Nat.reduceAdd, Nat.reduceMul, Nat.reducePow] at h1 h2; clear up; omega
  · have h1 := (up 4 (by decide)).1 (Nat.le_refl _); have h2 := mt (up 3 (by decide)).2 (by decide); simp only [Nat.reduceAdd, Nat.reduceMul, Nat.reducePow] at h1 h2; clear up; omega
  · have h1 := (up 5 (by decide)).1 (Nat.le_refl _); have h2 := mt (up 4 (by decide)).2 (by decide); simp only [Nat.reduceAdd, Nat.reduceMul, Nat.reducePow] at h1 h2; clear up; omega
  · have h1 := (up 6 (by decide)).1 (Nat.le_refl _); have h2 := mt (up 5 (by decide)).2 (by decide); simp only [Nat.reduceAdd, Nat.reduceMul, Nat.reducePow] at h1 h2; clear up; omega
  · have h1 := (up 7 (by decide)).1 (Nat.le_refl _); have h2 := mt (up 6 (by decide)).2 (by decide); simp only [Nat.reduceAdd, Nat.reduceMul, Nat.reducePow] at h1 h2; clear up; omega
  · have h2 := mt (up 7 (by decide)).2 (by decide); simp only [Nat.reduceAdd, Nat.reduceMul, Nat.reducePow] at h2; clear up; omega

/-! ### the greatest byte first -/
def be (n : Nat) : Nat → List UInt8
  | 0 => []
  | k + 1 => be (n / 256) k ++ [UInt8.ofNat n]
def unbe (a : Nat) (l : List UInt8) : Nat := l.foldl (fun n b => n * 256 + b.toNat) a
theorem be_len (n k : Nat) : (be n k).length = k := by induction k generalizing n with
  | zero => rfl
  | succ k ih => simp [be, ih]
theorem be_cons (n k : Nat) : be n (k + 1) = UInt8.ofNat (n / 256 ^ k) :: be n k := by
  induction k generalizing n with
  | zero => simp [be]
  | succ k ih => rw [be, ih, Nat.div_div_eq_div_mul, ← Nat.pow_succ']; rfl
theorem be_get (n k j : Nat) (h : j < k) : (be n k)[j]? = some (UInt8.ofNat (n / 256 ^ (k - 1 - j))) := by
  induction k generalizing j with
  | zero => omega
  | succ k ih =>
    rw [be_cons]
    cases j with
    | zero => simp
    | succ j => rw [List.getElem?_cons_succ, ih j (by omega), show k + 1 - 1 - (j + 1) = k - 1 - j from by omega]
theorem be_mod (c n k : Nat) : be (c * 256 ^ k + n) k = be n k := by
  induction k generalizing n with
  | zero => rfl
  | succ k ih =>
    have e0 : c * 256 ^ (k + 1) = 256 * (c * 256 ^ k) := by rw [Nat.pow_succ', Nat.mul_left_comm]
    have e1 : (c * 256 ^ (k + 1) + n) / 256 = c * 256 ^ k + n / 256 := by rw [e0]; generalize c * 256 ^ k = q; omega
    have e2 : UInt8.ofNat (c * 256 ^ (k + 1) + n) = UInt8.ofNat n := by
      apply UInt8.toNat.inj
      rw [UInt8.toNat_ofNat', UInt8.toNat_ofNat', e0]; generalize c * 256 ^ k = q; omega
    rw [be, be, e1, e2, ih]
theorem unbe_snoc (a : Nat) (l : List UInt8) (b : UInt8) : unbe a (l ++ [b]) = unbe a l * 256 + b.toNat := by simp [unbe]
theorem unbe_cons (a : Nat) (b : UInt8) (l : List UInt8) : unbe a (b :: l) = unbe (a * 256 + b.toNat) l := rfl
theorem unbe_app (a : Nat) (l m : List UInt8) : unbe a (l ++ m) = unbe (unbe a l) m := by simp [unbe]
theorem unbe_be (a n k : Nat) : unbe a (be n k) = a * 256 ^ k + n % 256 ^ k := by
  induction k generalizing n with
  | zero => simp [be, unbe, Nat.mod_one]
  | succ k ih =>
    have e0 : a * 256 ^ (k + 1) = 256 * (a * 256 ^ k) := by rw [Nat.pow_succ', Nat.mul_left_comm]
    have e1 : n % 256 ^ (k + 1) = n % 256 + 256 * (n / 256 % 256 ^ k) := by rw [Nat.pow_succ']; exact Nat.mod_mul
    rw [be, unbe_snoc, ih, UInt8.toNat_ofNat', e0, e1]
    generalize a * 256 ^ k = q
    generalize n / 256 % 256 ^ k = r
    omega
theorem unbe_eq (a : Nat) (l : List UInt8) : unbe a l = a * 256 ^ l.length + unbe 0 l := by
  induction l generalizing a with
  | nil => simp [unbe]
  | cons b l ih =>
    rw [unbe_cons, unbe_cons, ih, ih (0 * 256 + b.toNat), List.length_cons, Nat.pow_succ']
    simp only [Nat.zero_mul, Nat.zero_add, Nat.add_mul]
    rw [Nat.mul_assoc]; omega
theorem unbe_lt (l : List UInt8) : unbe 0 l < 256 ^ l.length := by
  induction l with
  | nil => simp [unbe]
  | cons b l ih =>
    rw [unbe_cons, unbe_eq, List.length_cons, Nat.pow_succ']
    have hb : b.toNat < 256 := b.toNat_lt
    have : (0 * 256 + b.toNat) * 256 ^ l.length ≤ 255 * 256 ^ l.length := Nat.mul_le_mul_right _ (by omega)
    omega
theorem unbe_lt' (a r : Nat) (l : List UInt8) (h : a < r) : unbe a l < r * 256 ^ l.length := by
  rw [unbe_eq]
  have := unbe_lt l
  have h2 : (a + 1) * 256 ^ l.length ≤ r * 256 ^ l.length := Nat.mul_le_mul_right _ h
  rw [Nat.add_mul, Nat.one_mul] at h2
  omega
theorem unbe_div (a : Nat) (l : List UInt8) : unbe a l / 256 ^ l.length = a := by
  rw [unbe_eq, Nat.mul_comm, Nat.mul_add_div (Nat.pow_pos (by decide)), Nat.div_eq_of_lt (unbe_lt l), Nat.add_zero]
theorem be_unbe (a : Nat) (l : List UInt8) : be (unbe a l) l.length = l := by
  induction l generalizing a with
  | nil => rfl
  | cons b l ih =>
    rw [List.length_cons, be_cons, unbe_cons, unbe_div, ih]
    congr 1
    apply UInt8.toNat.inj
    rw [UInt8.toNat_ofNat']
    have hb : b.toNat < 256 := b.toNat_lt
    omega

theorem shr_cast (n i : Nat) : (n : Int) / 2 ^ (8 * i) % 256 = ((n / 256 ^ i % 256 : Nat) : Int) := by
  rw [show (256 : Nat) ^ i = 2 ^ (8 * i) from by rw [Nat.pow_mul]]
  simp
/-! ### a number's bytes -/
def lead (k : Nat) : Nat := 256 - 2 ^ (8 - k)
@[irreducible] def wr (n : Nat) : List UInt8 := UInt8.ofNat (lead (beh n) + n / 256 ^ beh n) :: be n (beh n)
theorem wr_eq (n : Nat) : wr n = UInt8.ofNat (lead (beh n) + n / 256 ^ beh n) :: be n (beh n) := by unfold wr; rfl
theorem wr_len (n : Nat) : (wr n).length = beh n + 1 := by rw [wr_eq]; simp [be_len]
theorem wr_ne (n : Nat) : wr n ≠ [] := by rw [wr_eq]; simp
theorem wr_be (n : Nat) : wr n = be (lead (beh n) * 256 ^ beh n + n) (beh n + 1) := by
  rw [be_cons, be_mod, wr_eq, Nat.mul_comm, Nat.mul_add_div (Nat.pow_pos (by decide))]
/-- the first byte's part of n -/
theorem top_lt (n : Nat) (hn : n < 2 ^ 64) : n / 256 ^ beh n < 2 ^ (7 - beh n) := by
  rcases beh_cases n hn with ⟨e, h⟩ | ⟨e, h⟩ | ⟨e, h⟩ | ⟨e, h⟩ | ⟨e, h⟩ | ⟨e, h⟩ | ⟨e, h⟩ | ⟨e, h⟩ | ⟨e, h⟩ <;> rw [e] <;> simp only [Nat.reducePow, Nat.reduceSub] at * <;> omega
theorem lead_add : ∀ k : Fin 9, lead k.val + 2 ^ (7 - k.val) ≤ 256 ∧ (k.val < 8 → lead k.val + 2 ^ (7 - k.val) = lead (k.val + 1)) := by decide
theorem lead_next : ∀ k : Fin 8, lead (k.val + 1) = lead k.val / 2 + 128 := by decide
theorem lead_lt (k : Nat) : lead k ≤ 255 := by unfold lead; have := Nat.two_pow_pos (8 - k); omega
theorem lead_mono : ∀ k j : Fin 9, k.val ≤ j.val → lead k.val ≤ lead j.val := by decide
theorem or_lead : ∀ (k : Fin 8) (r : Fin 128), r.val < 2 ^ (7 - k.val) → bits .or .u8 (255 * 2 ^ (8 - k.val) % 256) (r.val : Int) = ((lead k.val + r.val : Nat) : Int) := by decide +kernel
theorem or_first (n k : Nat) (hk : k < 8) (h : n / 256 ^ k < 2 ^ (7 - k)) : bits .or .u8 (255 * 2 ^ (8 - k) % 256) ((n : Int) / 2 ^ (8 * k) % 256) = ((lead k + n / 256 ^ k : Nat) : Int) := by
  have h1 : 2 ^ (7 - k) ≤ 2 ^ 7 := Nat.pow_le_pow_right (by decide) (by omega)
  have h2 : n / 256 ^ k < 128 := by omega
  rw [shr_cast, Nat.mod_eq_of_lt (by omega)]
  exact or_lead ⟨k, hk⟩ ⟨n / 256 ^ k, h2⟩ h
theorem first_lt (n : Nat) (hn : n < 2 ^ 64) : lead (beh n) + n / 256 ^ beh n < 256 := by
  have h1 := top_lt n hn
  have h2 := (lead_add ⟨beh n, by have := beh_le8 n; omega⟩).1
  simp only at h2
  omega

/-! ### how many ones a byte begins with -/
def ones (c : Nat) : Nat := 8 - Lib.bitLen (255 - c)
theorem ones_all : ∀ c : Fin 256, ones c.val ≤ 8 ∧ lead (ones c.val) ≤ c.val ∧ c.val < lead (ones c.val) + 2 ^ (7 - ones c.val) ∧ (ones c.val < 8 → c.val &&& (127 >>> ones c.val) = c.val - lead (ones c.val)) := by decide +kernel
theorem ones_and_all : ∀ c : Fin 256, ones c.val < 8 → bits .and .u64 (c.val : Int) (127 / 2 ^ ones c.val) = ((c.val - lead (ones c.val) : Nat) : Int) := by decide +kernel
theorem ones_and (c : UInt8) (h : ones c.toNat < 8) : bits .and .u64 (c.toNat : Int) (127 / 2 ^ ones c.toNat) = ((c.toNat - lead (ones c.toNat) : Nat) : Int) := ones_and_all ⟨c.toNat, c.toNat_lt⟩ h
theorem ones_fact (c : UInt8) : ones c.toNat ≤ 8 ∧ lead (ones c.toNat) ≤ c.toNat ∧ c.toNat < lead (ones c.toNat) + 2 ^ (7 - ones c.toNat) ∧ (ones c.toNat < 8 → c.toNat &&& (127 >>> ones c.toNat) = c.toNat - lead (ones c.toNat)) :=
  ones_all ⟨c.toNat, c.toNat_lt⟩
theorem ones_of_all : ∀ (k : Fin 9) (c : Fin 256), lead k.val ≤ c.val → c.val < lead k.val + 2 ^ (7 - k.val) → ones c.val = k.val := by decide +kernel
theorem ones_of (k c : Nat) (hk : k ≤ 8) (hc : c < 256) (h1 : lead k ≤ c) (h2 : c < lead k + 2 ^ (7 - k)) : ones c = k := ones_of_all ⟨k, by omega⟩ ⟨c, hc⟩ h1 h2

/-- what is read: the number, how many bytes it has, what is wrong (5: none, 1: not of its form) -/
@[irreducible] def rd (s : List UInt8) : Nat × Nat × Nat :=
  match s with
  | [] => (0, 0, 5)
  | c :: t =>
    if t.length < ones c.toNat then (0, 0, 5) else
      if beh (unbe (c.toNat - lead (ones c.toNat)) (t.take (ones c.toNat))) = ones c.toNat then (unbe (c.toNat - lead (ones c.toNat)) (t.take (ones c.toNat)), ones c.toNat + 1, 0) else (0, 0, 1)
theorem rd_nil : rd [] = (0, 0, 5) := by unfold rd; rfl
theorem rd_short (c : UInt8) (t : List UInt8) (h : t.length < ones c.toNat) : rd (c :: t) = (0, 0, 5) := by unfold rd; simp [h]
theorem rd_cons (c : UInt8) (t : List UInt8) (h : ¬ t.length < ones c.toNat) :
    rd (c :: t) = if beh (unbe (c.toNat - lead (ones c.toNat)) (t.take (ones c.toNat))) = ones c.toNat then (unbe (c.toNat - lead (ones c.toNat)) (t.take (ones c.toNat)), ones c.toNat + 1, 0) else (0, 0, 1) := by unfold rd; simp [h]
theorem num_lt (c : UInt8) (t : List UInt8) (h : ¬ t.length < ones c.toNat) : unbe (c.toNat - lead (ones c.toNat)) (t.take (ones c.toNat)) < 2 ^ 64 := by
  obtain ⟨h8, h1, h2, _⟩ := ones_fact c
  have h3 := unbe_lt' (c.toNat - lead (ones c.toNat)) (2 ^ (7 - ones c.toNat)) (t.take (ones c.toNat)) (by omega)
  rw [List.length_take, Nat.min_eq_left (by omega)] at h3
  generalize ones c.toNat = k at *
  refine Nat.lt_of_lt_of_le h3 ?_
  have : k = 0 ∨ k = 1 ∨ k = 2 ∨ k = 3 ∨ k = 4 ∨ k = 5 ∨ k = 6 ∨ k = 7 ∨ k = 8 := by omega
  rcases this with rfl | rfl | rfl | rfl | rfl | rfl | rfl | rfl | rfl <;> decide
theorem part_le (c : UInt8) (t : List UInt8) (i : Nat) (h : ¬ t.length < ones c.toNat) (hi : i < ones c.toNat) : unbe (c.toNat - lead (ones c.toNat)) ((t.take (ones c.toNat)).take i) ≤ 72057594037927935 := by
  obtain ⟨h8, h1, h2, _⟩ := ones_fact c
  have h3 := unbe_lt' (c.toNat - lead (ones c.toNat)) (2 ^ (7 - ones c.toNat)) ((t.take (ones c.toNat)).take i) (by omega)
  rw [List.length_take, List.length_take, Nat.min_eq_left (by omega)] at h3
  generalize ones c.toNat = k at *
  have h4 : 256 ^ i ≤ 256 ^ (k - 1) := Nat.pow_le_pow_right (by decide) (by omega)
  have h5 : 2 ^ (7 - k) * 256 ^ i ≤ 2 ^ (7 - k) * 256 ^ (k - 1) := Nat.mul_le_mul_left _ h4
  have h6 : 2 ^ (7 - k) * 256 ^ (k - 1) ≤ 72057594037927936 := by
    have : k = 0 ∨ k = 1 ∨ k = 2 ∨ k = 3 ∨ k = 4 ∨ k = 5 ∨ k = 6 ∨ k = 7 ∨ k = 8 := by omega
    rcases this with rfl | rfl | rfl | rfl | rfl | rfl | rfl | rfl | rfl <;> decide
  omega
theorem wr_num (c : UInt8) (t : List UInt8) (h : ¬ t.length < ones c.toNat) (hb : beh (unbe (c.toNat - lead (ones c.toNat)) (t.take (ones c.toNat))) = ones c.toNat) :
    wr (unbe (c.toNat - lead (ones c.toNat)) (t.take (ones c.toNat))) = c :: t.take (ones c.toNat) := by
  obtain ⟨h8, h1, h2, _⟩ := ones_fact c
  have hl : (t.take (ones c.toNat)).length = ones c.toNat := by rw [List.length_take]; omega
  have e1 := unbe_div (c.toNat - lead (ones c.toNat)) (t.take (ones c.toNat))
  have e2 := be_unbe (c.toNat - lead (ones c.toNat)) (t.take (ones c.toNat))
  rw [hl] at e1 e2
  rw [wr_eq, hb, e1, e2]
  congr 1
  apply UInt8.toNat.inj
  rw [UInt8.toNat_ofNat']
  have hc : c.toNat < 256 := c.toNat_lt
  omega
/-- the document's own test -/
theorem wr_num_iff (c : UInt8) (t : List UInt8) (h : ¬ t.length < ones c.toNat) :
    (wr (unbe (c.toNat - lead (ones c.toNat)) (t.take (ones c.toNat))) = (c :: t).take (ones c.toNat + 1)) ↔ beh (unbe (c.toNat - lead (ones c.toNat)) (t.take (ones c.toNat))) = ones c.toNat := by
  refine ⟨fun e => ?_, fun e => by rw [wr_num c t h e]; rfl⟩
  have := congrArg List.length e
  rw [wr_len, List.length_take, List.length_cons] at this
  omega
theorem rd_cases (s : List UInt8) : (rd s = (0, 0, 5)) ∨ (rd s = (0, 0, 1)) ∨ (∃ n k, rd s = (n, k + 1, 0) ∧ k ≤ 8 ∧ k + 1 ≤ s.length ∧ n < 2 ^ 64 ∧ wr n = s.take (k + 1)) := by
  match s with
  | [] => exact .inl rd_nil
  | c :: t =>
    by_cases h : t.length < ones c.toNat
    · exact .inl (rd_short c t h)
    · rw [rd_cons c t h]
      by_cases hb : beh (unbe (c.toNat - lead (ones c.toNat)) (t.take (ones c.toNat))) = ones c.toNat
      · rw [if_pos hb]
        exact .inr (.inr ⟨_, _, rfl, (ones_fact c).1, by simp only [List.length_cons]; omega, num_lt c t h, by rw [wr_num c t h hb]; rfl⟩)
      · rw [if_neg hb]; exact .inr (.inl rfl)
theorem wr_head (n : Nat) (hn : n < 2 ^ 64) : ∃ c : UInt8, wr n = c :: be n (beh n) ∧ ones c.toNat = beh n ∧ c.toNat - lead (beh n) = n / 256 ^ beh n := by
  have h1 := first_lt n hn
  have e : (UInt8.ofNat (lead (beh n) + n / 256 ^ beh n)).toNat = lead (beh n) + n / 256 ^ beh n := by rw [UInt8.toNat_ofNat']; exact Nat.mod_eq_of_lt h1
  refine ⟨_, wr_eq n, ?_, by rw [e]; exact Nat.add_sub_cancel_left _ _⟩
  rw [e]
  exact ones_of _ _ (beh_le8 n) h1 (Nat.le_add_right _ _) (Nat.add_lt_add_left (top_lt n hn) _)
/-- what is written is read -/
theorem rd_wr (n : Nat) (b : List UInt8) (hn : n < 2 ^ 64) : rd (wr n ++ b) = (n, beh n + 1, 0) := by
  obtain ⟨c, e, ho, ht⟩ := wr_head n hn
  have hl : (be n (beh n) ++ b).take (beh n) = be n (beh n) := by rw [List.take_append_of_le_length (by rw [be_len]; omega), List.take_of_length_le (by rw [be_len]; omega)]
  have en : unbe (n / 256 ^ beh n) (be n (beh n)) = n := by rw [unbe_be, Nat.mul_comm]; exact Nat.div_add_mod _ _
  rw [e, List.cons_append, rd_cons _ _ (by rw [ho, List.length_append, be_len]; omega), ho, hl, ht, en, if_pos rfl]
/-- each beginning ends too early -/
theorem rd_cut (n k : Nat) (hn : n < 2 ^ 64) (hk : k < (wr n).length) : rd ((wr n).take k) = (0, 0, 5) := by
  obtain ⟨c, e, ho, ht⟩ := wr_head n hn
  rw [wr_len] at hk
  cases k with
  | zero => exact rd_nil
  | succ k => rw [e, List.take_succ_cons]; exact rd_short _ _ (by rw [ho, List.length_take, be_len]; omega)

/-! ### the order -/
theorem less_append (p x y : List UInt8) : Op.bytesLess (p ++ x) (p ++ y) = Op.bytesLess x y := by
  induction p with
  | nil => rfl
  | cons a p ih => simp [Op.bytesLess, ih, UInt8.lt_irrefl]
theorem less_self (x : List UInt8) : Op.bytesLess x x = false := by
  induction x with
  | nil => rfl
  | cons a x ih => simp [Op.bytesLess, ih, UInt8.lt_irrefl]
/-- of two texts as long as each other -/
theorem less_iff (u v : List UInt8) : ∀ (x y : List UInt8), x.length = y.length → unbe 0 x < unbe 0 y → Op.bytesLess (x ++ u) (y ++ v) = true ∧ Op.bytesLess (y ++ v) (x ++ u) = false
  | [], [], _, h => by simp [unbe] at h
  | a :: x, b :: y, hl, h => by
    have hl' : x.length = y.length := by simpa using hl
    rw [unbe_cons, unbe_cons, unbe_eq, unbe_eq (0 * 256 + b.toNat), ← hl'] at h
    have hx := unbe_lt x
    have hy := unbe_lt y
    rw [← hl'] at hy
    simp only [Nat.zero_mul, Nat.zero_add] at h
    have hab : a.toNat < b.toNat ∨ (a = b ∧ unbe 0 x < unbe 0 y) := by
      rcases Nat.lt_trichotomy a.toNat b.toNat with h1 | h1 | h1
      · exact .inl h1
      · right; refine ⟨UInt8.toNat.inj h1, ?_⟩; rw [h1] at h; omega
      · exfalso
        have : (b.toNat + 1) * 256 ^ x.length ≤ a.toNat * 256 ^ x.length := Nat.mul_le_mul_right _ h1
        rw [Nat.add_mul, Nat.one_mul] at this
        omega
    rcases hab with h1 | ⟨rfl, h1⟩
    · have e1 : decide (a < b) = true := by rw [decide_eq_true_eq, UInt8.lt_iff_toNat_lt]; exact h1
      have e2 : decide (b < a) = false := by rw [decide_eq_false_iff_not, UInt8.lt_iff_toNat_lt]; omega
      have e3 : (b == a) = false := by rw [beq_eq_false_iff_ne]; rintro rfl; omega
      simp [Op.bytesLess, e1, e2, e3]
    · have := less_iff u v x y hl' h1
      simp [Op.bytesLess, this, UInt8.lt_irrefl]
theorem wr_less (a b : Nat) (u v : List UInt8) (ha : a < 2 ^ 64) (hb : b < 2 ^ 64) (h : a < b) : Op.bytesLess (wr a ++ u) (wr b ++ v) = true ∧ Op.bytesLess (wr b ++ v) (wr a ++ u) = false := by
  have hm := beh_mono ha hb (Nat.le_of_lt h)
  rcases Nat.lt_or_ge (beh a) (beh b) with hlt | hge
  · obtain ⟨c, ec, hoc, htc⟩ := wr_head a ha
    obtain ⟨d, ed, hod, htd⟩ := wr_head b hb
    have k8 := beh_le8 b
    obtain ⟨_, _, h3, _⟩ := ones_fact c
    obtain ⟨_, h4, _, _⟩ := ones_fact d
    rw [hoc] at h3
    rw [hod] at h4
    have h5 := (lead_add ⟨beh a, by omega⟩).2 (by show beh a < 8; omega)
    have h6 := lead_mono ⟨beh a + 1, by omega⟩ ⟨beh b, by omega⟩ (by show beh a + 1 ≤ beh b; omega)
    simp only at h5 h6
    have hcd : c.toNat < d.toNat := by omega
    have e1 : decide (c < d) = true := by rw [decide_eq_true_eq, UInt8.lt_iff_toNat_lt]; exact hcd
    have e2 : decide (d < c) = false := by rw [decide_eq_false_iff_not, UInt8.lt_iff_toNat_lt]; omega
    have e3 : (d == c) = false := by rw [beq_eq_false_iff_ne]; rintro rfl; omega
    rw [ec, ed]
    simp [Op.bytesLess, e1, e2, e3]
  · have e : beh a = beh b := by omega
    refine less_iff u v _ _ (by rw [wr_len, wr_len, e]) ?_
    have key : ∀ n, n < 2 ^ 64 → unbe 0 (wr n) = lead (beh n) * 256 ^ beh n + n := fun n hn => by
      rw [wr_be, unbe_be, Nat.zero_mul, Nat.zero_add]
      apply Nat.mod_eq_of_lt
      have h1 := first_lt n hn
      have h2 : n < (n / 256 ^ beh n + 1) * 256 ^ beh n := by rw [Nat.mul_comm]; exact Nat.lt_mul_div_succ n (Nat.pow_pos (by decide))
      have h3 : (lead (beh n) + n / 256 ^ beh n + 1) * 256 ^ beh n ≤ 256 * 256 ^ beh n := Nat.mul_le_mul_right _ (by omega)
      rw [Nat.pow_succ']
      rw [Nat.add_assoc, Nat.add_mul] at h3
      omega
    rw [key a ha, key b hb, e]; omega
theorem wr_less_iff (a b : Nat) (ha : a < 2 ^ 64) (hb : b < 2 ^ 64) : Op.bytesLess (wr a) (wr b) = decide (a < b) := by
  rcases Nat.lt_trichotomy a b with h | rfl | h
  · have := (wr_less a b [] [] ha hb h).1; simp only [List.append_nil] at this; rw [this]; simp [h]
  · rw [less_self]; simp
  · have := (wr_less b a [] [] hb ha h).2; simp only [List.append_nil] at this; rw [this]; simp; omega

/-! ### lists -/
@[irreducible] def all (l : List Nat) : List UInt8 := l.flatMap wr
theorem all_nil : all [] = [] := by unfold all; rfl
theorem all_cons (n : Nat) (l : List Nat) : all (n :: l) = wr n ++ all l := by unfold all; rfl
theorem all_snoc (l : List Nat) (n : Nat) : all (l ++ [n]) = all l ++ wr n := by unfold all; simp
theorem all_len (l : List Nat) : (all l).length ≤ 9 * l.length := by
  induction l with
  | nil => simp [all_nil]
  | cons n l ih => rw [all_cons, List.length_append, wr_len, List.length_cons]; have := beh_le8 n; omega
def rdf : Nat → List UInt8 → List Nat × Nat
  | 0, _ => ([], 0)
  | f + 1, s => if s = [] then ([], 0) else if (rd s).2.2 = 0 then ((rd s).1 :: (rdf f (s.drop (rd s).2.1)).1, (rdf f (s.drop (rd s).2.1)).2) else ([], (rd s).2.2)
@[irreducible] def many (s : List UInt8) : List Nat × Nat := rdf s.length s
theorem rdf_nil (f : Nat) : rdf f [] = ([], 0) := by cases f <;> rfl
theorem rd_ok {s : List UInt8} (h : (rd s).2.2 = 0) : 1 ≤ (rd s).2.1 ∧ (rd s).2.1 ≤ s.length ∧ (rd s).2.1 ≤ 9 ∧ (rd s).1 < 2 ^ 64 ∧ wr (rd s).1 = s.take (rd s).2.1 := by
  rcases rd_cases s with e | e | ⟨n, k, e, h8, hk, hn, hw⟩
  · rw [e] at h; cases h
  · rw [e] at h; cases h
  · rw [e]; exact ⟨by simp, hk, by simp; omega, hn, hw⟩
theorem rdf_fuel : ∀ (f : Nat) (s : List UInt8), s.length ≤ f → rdf f s = rdf s.length s
  | 0, s, h => by
    obtain rfl : s = [] := List.length_eq_zero_iff.1 (by omega)
    rfl
  | f + 1, s, h => by
    by_cases hs : s = []
    · subst hs; rfl
    · obtain ⟨g, hg⟩ : ∃ g, s.length = g + 1 := ⟨s.length - 1, by have := List.length_pos_iff.2 hs; omega⟩
      rw [hg, rdf, rdf, if_neg hs, if_neg hs]
      by_cases he : (rd s).2.2 = 0
      · obtain ⟨h1, h2, _⟩ := rd_ok he
        have hl : (s.drop (rd s).2.1).length ≤ g := by rw [List.length_drop]; omega
        rw [if_pos he, if_pos he, rdf_fuel f _ (by omega), rdf_fuel g _ hl]
      · rw [if_neg he, if_neg he]
theorem many_nil : many [] = ([], 0) := by unfold many; rfl
theorem many_ok (s : List UInt8) (hs : s ≠ []) (h : (rd s).2.2 = 0) : many s = ((rd s).1 :: (many (s.drop (rd s).2.1)).1, (many (s.drop (rd s).2.1)).2) := by
  unfold many
  obtain ⟨g, hg⟩ : ∃ g, s.length = g + 1 := ⟨s.length - 1, by have := List.length_pos_iff.2 hs; omega⟩
  obtain ⟨h1, h2, _⟩ := rd_ok h
  rw [hg, rdf, if_neg hs, if_pos h, rdf_fuel g _ (by rw [List.length_drop]; omega)]
theorem many_bad (s : List UInt8) (hs : s ≠ []) (h : (rd s).2.2 ≠ 0) : many s = ([], (rd s).2.2) := by
  unfold many
  obtain ⟨g, hg⟩ : ∃ g, s.length = g + 1 := ⟨s.length - 1, by have := List.length_pos_iff.2 hs; omega⟩
  rw [hg, rdf, if_neg hs, if_neg h]
theorem many_len (s : List UInt8) : (many s).1.length ≤ s.length := by
  have key : ∀ (f : Nat) (s : List UInt8), s.length ≤ f → (many s).1.length ≤ s.length := by
    intro f
    induction f with
    | zero => intro s h; obtain rfl : s = [] := List.length_eq_zero_iff.1 (by omega); rw [many_nil]; simp
    | succ f ih =>
      intro s h
      by_cases hs : s = []
      · subst hs; rw [many_nil]; simp
      · by_cases he : (rd s).2.2 = 0
        · obtain ⟨h1, h2, _⟩ := rd_ok he
          rw [many_ok s hs he]
          have := ih (s.drop (rd s).2.1) (by rw [List.length_drop]; omega)
          rw [List.length_drop] at this
          simp only [List.length_cons]; omega
        · rw [many_bad s hs he]; simp
  exact key _ s (Nat.le_refl _)
theorem many_all (l : List Nat) (hl : ∀ n ∈ l, n < 2 ^ 64) : many (all l) = (l, 0) := by
  induction l with
  | nil => rw [all_nil, many_nil]
  | cons n l ih =>
    have e := rd_wr n (all l) (hl n (by simp))
    rw [all_cons, many_ok _ (by simp [wr_ne]) (by rw [e]), e]
    have e2 : (wr n ++ all l).drop (beh n + 1) = all l := by rw [← wr_len, List.drop_left]
    simp only
    rw [e2, ih (fun m hm => hl m (by simp [hm]))]
theorem all_less : ∀ (x y : List Nat), (∀ n ∈ x, n < 2 ^ 64) → (∀ n ∈ y, n < 2 ^ 64) → Op.bytesLess (all x) (all y) = numsLess x y
  | x, [], _, _ => by rw [all_nil]; cases all x <;> cases x <;> rfl
  | [], b :: y, _, _ => by
    rw [all_nil, all_cons]
    cases h : wr b ++ all y with
    | nil => simp [wr_ne] at h
    | cons c t => rfl
  | a :: x, b :: y, hx, hy => by
    have ha := hx a (by simp)
    have hb := hy b (by simp)
    rw [all_cons, all_cons]
    rcases Nat.lt_trichotomy a b with h | rfl | h
    · rw [(wr_less a b _ _ ha hb h).1]; simp [numsLess, h]
    · rw [less_append, all_less x y (fun n hn => hx n (by simp [hn])) (fun n hn => hy n (by simp [hn]))]; simp [numsLess]
    · rw [(wr_less b a _ _ hb ha h).2]
      have h1 : ¬ a < b := by omega
      have h2 : ¬ a = b := by omega
      simp [numsLess, h1, h2]
/-- what is read of a whole text -/
@[irreducible] def rl (s : List UInt8) : List Nat := if (many s).2 = 0 then (many s).1 else []
theorem rl_ok (s : List UInt8) (h : (many s).2 = 0) : rl s = (many s).1 := by unfold rl; rw [if_pos h]
theorem rl_bad (s : List UInt8) (h : (many s).2 ≠ 0) : rl s = [] := by unfold rl; rw [if_neg h]
end Hy.Vary
end
section
namespace Hy.Front
open Go Hy.Vary
abbrev Tx := List UInt8
def shr : Tx → Tx → Nat
  | x :: a, y :: b => if x = y then shr a b + 1 else 0
  | _, _ => 0
theorem shr_nil (b : Tx) : shr [] b = 0 := by cases b <;> rfl
theorem shr_le : ∀ a b : Tx, shr a b ≤ a.length ∧ shr a b ≤ b.length
  | [], b => by rw [shr_nil]; simp
  | a :: x, [] => by simp [shr]
  | a :: x, b :: y => by
    have := shr_le x y
    simp only [shr, List.length_cons]
    split <;> omega
theorem shr_take : ∀ a b : Tx, a.take (shr a b) = b.take (shr a b)
  | [], b => by rw [shr_nil]; simp
  | a :: x, [] => by simp [shr]
  | a :: x, b :: y => by
    simp only [shr]
    split
    · rename_i h; subst h; rw [List.take_succ_cons, List.take_succ_cons, shr_take x y]
    · simp
theorem shr_comm : ∀ a b : Tx, shr a b = shr b a
  | [], b => by cases b <;> rfl
  | a :: x, [] => rfl
  | a :: x, b :: y => by
    simp only [shr]
    rw [shr_comm x y]
    by_cases h : a = b
    · rw [if_pos h, if_pos h.symm]
    · rw [if_neg h, if_neg fun k => h k.symm]
theorem shr_ge : ∀ (k : Nat) (a b : Tx), a.take k = b.take k → k ≤ a.length → k ≤ b.length → k ≤ shr a b
  | 0, _, _, _, _, _ => Nat.zero_le _
  | k + 1, [], b, _, h, _ => by simp at h
  | k + 1, a :: x, [], _, _, h => by simp at h
  | k + 1, a :: x, b :: y, ht, h1, h2 => by
    simp only [List.take_succ_cons, List.cons.injEq] at ht
    simp only [shr, if_pos ht.1]
    have := shr_ge k x y ht.2 (by simpa using h1) (by simpa using h2)
    omega
theorem shr_self (a : Tx) : shr a a = a.length := by
  have := shr_ge a.length a a rfl (Nat.le_refl _) (Nat.le_refl _)
  have := (shr_le a a).1
  omega
/-- what is in common for k bytes goes on, or stops -/
theorem shr_more (a b : Tx) (k : Nat) (ht : a.take k = b.take k) (h1 : k < a.length) (h2 : k < b.length) (e : a[k] = b[k]) : a.take (k + 1) = b.take (k + 1) := by
  rw [List.take_succ_eq_append_getElem h1, List.take_succ_eq_append_getElem h2, ht, e]
theorem shr_stop (a b : Tx) (k : Nat) (ht : a.take k = b.take k) (h1 : k ≤ a.length) (h2 : k ≤ b.length) (h : ∀ (ha : k < a.length) (hb : k < b.length), a[k] ≠ b[k]) : shr a b = k := by
  have h3 := shr_ge k a b ht h1 h2
  rcases Nat.lt_or_ge k (shr a b) with h4 | h4
  · have h5 := shr_le a b
    have h6 := congrArg (fun l : Tx => l[k]?) (shr_take a b)
    simp only [List.getElem?_take_of_lt h4] at h6
    rw [List.getElem?_eq_getElem (by omega), List.getElem?_eq_getElem (by omega), Option.some.injEq] at h6
    exact absurd h6 (h (by omega) (by omega))
  · omega
theorem shr_iff (a b : Tx) (k : Nat) (h1 : k ≤ a.length) (h2 : k ≤ b.length) : k ≤ shr a b ↔ a.take k = b.take k := by
  refine ⟨fun h => ?_, fun h => shr_ge k a b h h1 h2⟩
  have := congrArg (List.take k) (shr_take a b)
  rw [List.take_take, List.take_take, Nat.min_eq_left h] at this
  exact this

/-! ### a list's bytes -/
def one (last s : Tx) : Tx := wr (shr last s) ++ (wr (s.length - shr last s) ++ s.drop (shr last s))
def enc : Tx → List Tx → Tx
  | _, [] => []
  | last, s :: r => one last s ++ enc s r
theorem enc_snoc (last : Tx) (l : List Tx) (s : Tx) : enc last (l ++ [s]) = enc last l ++ one (l.getLastD last) s := by
  induction l generalizing last with
  | nil => simp [enc]
  | cons t l ih => rw [List.cons_append, enc, enc, ih, List.append_assoc, List.getLastD_cons]
@[irreducible] def bytes (l : List Tx) : Tx := enc [] l
theorem bytes_eq (l : List Tx) : bytes l = enc [] l := by unfold bytes; rfl
def fitB (l : List Tx) : Bool := l.all fun s => decide (s.length ≤ 16)
theorem fitB_iff (l : List Tx) : fitB l = true ↔ ∀ s ∈ l, s.length ≤ 16 := by simp [fitB]
/-- Write: the bytes, what is wrong -/
@[irreducible] def wrt (l : List Tx) : Tx × Nat := if l.length ≤ 64 ∧ fitB l = true then (bytes l, 0) else ([], 2)
theorem wrt_ok {l : List Tx} (h1 : l.length ≤ 64) (h2 : fitB l = true) : wrt l = (bytes l, 0) := by unfold wrt; rw [if_pos ⟨h1, h2⟩]
theorem wrt_bad {l : List Tx} (h : ¬ (l.length ≤ 64 ∧ fitB l = true)) : wrt l = ([], 2) := by unfold wrt; rw [if_neg h]

/-! ### reading -/
/-- a text that comes next: itself, what is left, what is wrong -/
@[irreducible] def txt (s last : Tx) : Tx × Tx × Nat :=
  if (rd s).2.2 ≠ 0 then ([], [], (rd s).2.2) else
  if (rd (s.drop (rd s).2.1)).2.2 ≠ 0 then ([], [], (rd (s.drop (rd s).2.1)).2.2) else
  if last.length < (rd s).1 then ([], [], 3) else
  if 16 - (rd s).1 < (rd (s.drop (rd s).2.1)).1 then ([], [], 2) else
  if ((s.drop (rd s).2.1).drop (rd (s.drop (rd s).2.1)).2.1).length < (rd (s.drop (rd s).2.1)).1 then ([], [], 5) else
  if shr last (last.take (rd s).1 ++ ((s.drop (rd s).2.1).drop (rd (s.drop (rd s).2.1)).2.1).take (rd (s.drop (rd s).2.1)).1) ≠ (rd s).1 then ([], [], 1) else
  (last.take (rd s).1 ++ ((s.drop (rd s).2.1).drop (rd (s.drop (rd s).2.1)).2.1).take (rd (s.drop (rd s).2.1)).1,
    ((s.drop (rd s).2.1).drop (rd (s.drop (rd s).2.1)).2.1).drop (rd (s.drop (rd s).2.1)).1, 0)
section
variable {s last s1 s2 : Tx} {n k e m j f : Nat}
theorem txt_1 (h1 : rd s = (n, k, e)) (he : e ≠ 0) : txt s last = ([], [], e) := by unfold txt; rw [h1]; simp [he]
theorem txt_2 (h1 : rd s = (n, k, 0)) (hs1 : s1 = s.drop k) (h2 : rd s1 = (m, j, f)) (hf : f ≠ 0) : txt s last = ([], [], f) := by subst hs1; unfold txt; rw [h1]; simp [h2, hf]
theorem txt_3 (h1 : rd s = (n, k, 0)) (hs1 : s1 = s.drop k) (h2 : rd s1 = (m, j, 0)) (h3 : last.length < n) : txt s last = ([], [], 3) := by subst hs1; unfold txt; rw [h1]; simp [h2, h3]
theorem txt_4 (h1 : rd s = (n, k, 0)) (hs1 : s1 = s.drop k) (h2 : rd s1 = (m, j, 0)) (h3 : ¬ last.length < n) (h4 : 16 - n < m) : txt s last = ([], [], 2) := by subst hs1; unfold txt; rw [h1]; simp [h2, h3, h4]
theorem txt_5 (h1 : rd s = (n, k, 0)) (hs1 : s1 = s.drop k) (h2 : rd s1 = (m, j, 0)) (h3 : ¬ last.length < n) (h4 : ¬ 16 - n < m) (hs2 : s2 = s1.drop j) (h5 : s2.length < m) : txt s last = ([], [], 5) := by
  subst hs2 hs1; unfold txt; simp only [h1, h2]; rw [if_neg (by simp), if_neg (by simp), if_neg h3, if_neg h4, if_pos h5]
theorem txt_6 (h1 : rd s = (n, k, 0)) (hs1 : s1 = s.drop k) (h2 : rd s1 = (m, j, 0)) (h3 : ¬ last.length < n) (h4 : ¬ 16 - n < m) (hs2 : s2 = s1.drop j) (h5 : ¬ s2.length < m) (h6 : shr last (last.take n ++ s2.take m) ≠ n) : txt s last = ([], [], 1) := by
  subst hs2 hs1; unfold txt; simp only [h1, h2]; rw [if_neg (by simp), if_neg (by simp), if_neg h3, if_neg h4, if_neg h5, if_pos h6]
theorem txt_7 (h1 : rd s = (n, k, 0)) (hs1 : s1 = s.drop k) (h2 : rd s1 = (m, j, 0)) (h3 : ¬ last.length < n) (h4 : ¬ 16 - n < m) (hs2 : s2 = s1.drop j) (h5 : ¬ s2.length < m) (h6 : shr last (last.take n ++ s2.take m) = n) : txt s last = (last.take n ++ s2.take m, s2.drop m, 0) := by
  subst hs2 hs1; unfold txt; simp only [h1, h2]; rw [if_neg (by simp), if_neg (by simp), if_neg h3, if_neg h4, if_neg h5, if_neg (by simpa using h6)]
end
/-- what is read is what was written -/
theorem txt_ok {s last t r : Tx} (hl : last.length ≤ 16) (h : txt s last = (t, r, 0)) : s = one last t ++ r ∧ t.length ≤ 16 := by
  obtain ⟨n, k, e, h1⟩ : ∃ n k e, rd s = (n, k, e) := ⟨_, _, _, rfl⟩
  by_cases he : e = 0
  · subst he
    obtain ⟨m, j, f, h2⟩ : ∃ m j f, rd (s.drop k) = (m, j, f) := ⟨_, _, _, rfl⟩
    by_cases hf : f = 0
    · subst hf
      by_cases h3 : last.length < n
      · rw [txt_3 h1 rfl h2 h3] at h; simp at h
      · by_cases h4 : 16 - n < m
        · rw [txt_4 h1 rfl h2 h3 h4] at h; simp at h
        · by_cases h5 : ((s.drop k).drop j).length < m
          · rw [txt_5 h1 rfl h2 h3 h4 rfl h5] at h; simp at h
          · by_cases h6 : shr last (last.take n ++ ((s.drop k).drop j).take m) = n
            · rw [txt_7 h1 rfl h2 h3 h4 rfl h5 h6] at h
              simp only [Prod.mk.injEq, and_true] at h
              obtain ⟨rfl, rfl⟩ := h
              obtain ⟨_, k2, _, _, w1⟩ := rd_ok (s := s) (by rw [h1])
              obtain ⟨_, j2, _, _, w2⟩ := rd_ok (s := s.drop k) (by rw [h2])
              rw [h1] at w1 k2
              rw [h2] at w2 j2
              simp only at w1 w2 k2 j2
              have ln : (last.take n).length = n := by rw [List.length_take]; omega
              have lm : (((s.drop k).drop j).take m).length = m := by rw [List.length_take]; omega
              refine ⟨?_, by rw [List.length_append, ln, lm]; omega⟩
              unfold one
              rw [h6, List.length_append, ln, lm, Nat.add_sub_cancel_left, List.drop_left' ln, w1, w2, List.append_assoc, List.append_assoc, List.take_append_drop, List.take_append_drop, List.take_append_drop]
            · rw [txt_6 h1 rfl h2 h3 h4 rfl h5 h6] at h; simp at h
    · rw [txt_2 h1 rfl h2 hf] at h; simp at h; omega
  · rw [txt_1 h1 he] at h; simp at h; omega
theorem txt_one (last s r : Tx) (hs : s.length ≤ 16) (hl : last.length ≤ 16) : txt (one last s ++ r) last = (s, r, 0) := by
  have hle := shr_le last s
  have ht := shr_take last s
  have hw1 : rd (one last s ++ r) = (shr last s, beh (shr last s) + 1, 0) := by
    unfold one; rw [List.append_assoc]; exact rd_wr _ _ (by omega)
  have hd1 : (one last s ++ r).drop (beh (shr last s) + 1) = wr (s.length - shr last s) ++ (s.drop (shr last s) ++ r) := by
    unfold one; rw [List.append_assoc, List.append_assoc, List.drop_left' (wr_len _)]
  have hw2 : rd (wr (s.length - shr last s) ++ (s.drop (shr last s) ++ r)) = (s.length - shr last s, beh (s.length - shr last s) + 1, 0) := rd_wr _ _ (by omega)
  have hd2 : (wr (s.length - shr last s) ++ (s.drop (shr last s) ++ r)).drop (beh (s.length - shr last s) + 1) = s.drop (shr last s) ++ r := List.drop_left' (wr_len _)
  have hl2 : (s.drop (shr last s)).length = s.length - shr last s := List.length_drop
  have hx : last.take (shr last s) ++ (s.drop (shr last s) ++ r).take (s.length - shr last s) = s := by
    rw [ht, List.take_left' hl2, List.take_append_drop]
  have := txt_7 (last := last) hw1 hd1.symm hw2 (by omega) (by omega) hd2.symm (by rw [List.length_append]; omega) (by rw [hx])
  rw [this, hx, List.drop_left' hl2]
/-- so many texts -/
def rds : Nat → Tx → Tx → List Tx × Nat
  | 0, s, _ => if s = [] then ([], 0) else ([], 1)
  | k + 1, s, last => if (txt s last).2.2 ≠ 0 then ([], (txt s last).2.2) else ((txt s last).1 :: (rds k (txt s last).2.1 (txt s last).1).1, (rds k (txt s last).2.1 (txt s last).1).2)
theorem rds_ok {k : Nat} {s last t r : Tx} (h : txt s last = (t, r, 0)) : rds (k + 1) s last = (t :: (rds k r t).1, (rds k r t).2) := by simp [rds, h]
theorem rds_bad {k e : Nat} {s last t r : Tx} (h : txt s last = (t, r, e)) (he : e ≠ 0) : rds (k + 1) s last = ([], e) := by simp [rds, h, he]
theorem rds_enc (l : List Tx) (last : Tx) (h : ∀ s ∈ l, s.length ≤ 16) (hl : last.length ≤ 16) : rds l.length (enc last l) last = (l, 0) := by
  induction l generalizing last with
  | nil => simp [rds, enc]
  | cons s l ih =>
    have hs := h s (by simp)
    rw [List.length_cons, enc, rds_ok (txt_one last s (enc s l) hs hl), ih s (fun t ht => h t (by simp [ht])) hs]
theorem rds_only : ∀ (k : Nat) (s last : Tx) (l : List Tx), last.length ≤ 16 → rds k s last = (l, 0) → s = enc last l ∧ l.length = k ∧ ∀ t ∈ l, t.length ≤ 16
  | 0, s, last, l, _, h => by
    by_cases hs : s = []
    · simp only [rds, if_pos hs, Prod.mk.injEq, and_true] at h; subst h; subst hs; exact ⟨rfl, rfl, fun t ht => by cases ht⟩
    · simp [rds, hs] at h
  | k + 1, s, last, l, hl, h => by
    obtain ⟨t, r, e, ht⟩ : ∃ t r e, txt s last = (t, r, e) := ⟨_, _, _, rfl⟩
    by_cases he : e = 0
    · subst he
      rw [rds_ok ht] at h
      simp only [Prod.mk.injEq] at h
      obtain ⟨h1, h2⟩ := h
      obtain ⟨g1, g2⟩ := txt_ok hl ht
      obtain ⟨g3, g4, g5⟩ := rds_only k r t (rds k r t).1 g2 (by rw [← h2])
      subst h1
      exact ⟨by rw [enc, ← g3, g1], by rw [List.length_cons, g4], fun x hx => by rcases List.mem_cons.1 hx with rfl | hx; exact g2; exact g5 x hx⟩
    · rw [rds_bad ht he] at h; simp at h; omega
/-- Read: the texts, what is wrong -/
@[irreducible] def rdl (s : Tx) (many : Int) : List Tx × Nat :=
  if many < 0 then ([], 3) else if 64 < many then ([], 2) else if (rds many.toNat s []).2 = 0 then rds many.toNat s [] else ([], (rds many.toNat s []).2)
theorem rdl_neg {s : Tx} {many : Int} (h : many < 0) : rdl s many = ([], 3) := by unfold rdl; rw [if_pos h]
theorem rdl_many {s : Tx} {many : Int} (h : 64 < many) : rdl s many = ([], 2) := by unfold rdl; rw [if_neg (by omega), if_pos h]
theorem rdl_in {s : Tx} {many : Nat} (h : many ≤ 64) : rdl s many = if (rds many s []).2 = 0 then rds many s [] else ([], (rds many s []).2) := by
  unfold rdl; rw [if_neg (by omega), if_neg (by omega), Int.toNat_natCast]
theorem rdl_bytes (l : List Tx) (h1 : l.length ≤ 64) (h2 : fitB l = true) : rdl (bytes l) l.length = (l, 0) := by
  rw [rdl_in h1, bytes_eq, rds_enc l [] ((fitB_iff l).1 h2) (by simp), if_pos rfl]
theorem rdl_only {s : Tx} {many : Int} {l : List Tx} (h : rdl s many = (l, 0)) : wrt l = (s, 0) ∧ (l.length : Int) = many ∧ l.length ≤ 64 := by
  by_cases h1 : many < 0
  · rw [rdl_neg h1] at h; simp at h
  · by_cases h2 : 64 < many
    · rw [rdl_many h2] at h; simp at h
    · obtain ⟨m, rfl⟩ := Int.eq_ofNat_of_zero_le (show 0 ≤ many by omega)
      rw [rdl_in (by omega)] at h
      split at h
      · obtain ⟨g1, g2, g3⟩ := rds_only m s [] l (by simp) h
        refine ⟨?_, by omega, by omega⟩
        rw [wrt_ok (by omega) ((fitB_iff l).2 g3), bytes_eq, ← g1]
      · simp only [Prod.mk.injEq] at h; omega
theorem rdl_err {s : Tx} {many : Int} (h : (rdl s many).2 ≠ 0) : (rdl s many).1 = [] := by
  by_cases h1 : many < 0
  · rw [rdl_neg h1]
  · by_cases h2 : 64 < many
    · rw [rdl_many h2]
    · obtain ⟨m, rfl⟩ := Int.eq_ofNat_of_zero_le (show 0 ≤ many by omega)
      rw [rdl_in (by omega)] at h ⊢
      split
      · rename_i h0; rw [if_pos h0] at h; exact absurd h0 h
      · rfl

/-! ### what texts share -/
theorem shr_ultra (a b c : Tx) : min (shr a b) (shr b c) ≤ shr a c := by
  have h1 := shr_le a b
  have h2 := shr_le b c
  refine shr_ge _ a c ?_ (by omega) (by omega)
  have e1 := (shr_iff a b (min (shr a b) (shr b c)) (by omega) (by omega)).1 (by omega)
  have e2 := (shr_iff b c (min (shr a b) (shr b c)) (by omega) (by omega)).1 (by omega)
  rw [e1, e2]
theorem shr_all (a b : Tx) (h : a.length = b.length) : shr a b = a.length ↔ a = b := by
  refine ⟨fun e => ?_, fun e => by rw [e, shr_self]⟩
  have := shr_take a b
  rw [e, List.take_of_length_le (Nat.le_refl _), List.take_of_length_le (by omega)] at this
  exact this
theorem less_cons (a b : UInt8) (x y : Tx) : Op.bytesLess (a :: x) (b :: y) = (decide (a < b) || (a == b && Op.bytesLess x y)) := rfl
/-- not above: the first byte that differs is less, or the text ends -/
def leq (a b : Tx) : Prop := Op.bytesLess b a = false
theorem shr_rises : ∀ a b c : Tx, leq a b → leq b c → shr a c = min (shr a b) (shr b c)
  | [], b, c, _, _ => by rw [shr_nil, shr_nil]; omega
  | x :: a, [], c, h, _ => by simp [leq, Op.bytesLess] at h
  | x :: a, y :: b, [], _, h => by simp [leq, Op.bytesLess] at h
  | x :: a, y :: b, z :: c, h1, h2 => by
    unfold leq at h1 h2
    rw [less_cons] at h1 h2
    simp only [Bool.or_eq_false_iff, decide_eq_false_iff_not, Bool.and_eq_false_iff, beq_eq_false_iff_ne, UInt8.lt_iff_toNat_lt] at h1 h2
    simp only [shr]
    by_cases e1 : x = y
    · subst e1
      by_cases e2 : x = z
      · subst e2
        have := shr_rises a b c (by rcases h1.2 with h | h; (· exact absurd rfl h); exact h) (by rcases h2.2 with h | h; (· exact absurd rfl h); exact h)
        simp only [if_true, this]; omega
      · simp [e2]
    · by_cases e2 : y = z
      · subst e2; simp [e1]
      · have h3 : x.toNat ≠ y.toNat := fun h => e1 (UInt8.toNat.inj h)
        have h4 : ¬ x = z := fun h => by subst h; have h5 : y.toNat ≠ x.toNat := fun h => e1 (UInt8.toNat.inj h.symm); omega
        simp [e1, e2, h4]
theorem one_len (last s : Tx) (h : s.length ≤ 16) : (one last s).length + shr last s = s.length + 2 := by
  have := shr_le last s
  have b1 := beh_le (shr last s) 0 (by omega) (by decide)
  have b2 := beh_le (s.length - shr last s) 0 (by omega) (by decide)
  have c1 : beh (shr last s) = 0 := by have := b1.2 (by omega); omega
  have c2 : beh (s.length - shr last s) = 0 := by have := b2.2 (by omega); omega
  unfold one
  rw [List.length_append, List.length_append, wr_len, wr_len, List.length_drop, c1, c2]; omega
end Hy.Front
end
section
namespace Hy.Dct
open Go
abbrev T := List UInt8
theorem le_lt {a b : T} (h : a ≤ b) (hn : a ≠ b) : a < b := by
  rcases Classical.em (b ≤ a) with h2 | h2
  · exact absurd (List.le_antisymm h h2) hn
  · exact List.not_le.1 h2
theorem lt_le {a b : T} (h : a < b) : a ≤ b := List.le_of_lt h
theorem tot3 (a b : T) : a < b ∨ a = b ∨ b < a := by
  rcases Classical.em (a = b) with h | h
  · exact .inr (.inl h)
  · rcases List.le_total a b with h2 | h2
    · exact .inl (le_lt h2 h)
    · exact .inr (.inr (le_lt h2 (fun e => h e.symm)))
theorem lt_irr (a : T) : ¬ a < a := List.lt_irrefl a
theorem lt_tr {a b c : T} (h : a < b) (k : b < c) : a < c := List.lt_trans h k
theorem lt_asy {a b : T} (h : a < b) : ¬ b < a := fun k => lt_irr a (lt_tr h k)
/-- sorted -/
def srt (l : List T) : List T := l.mergeSort (fun x y => decide (x ≤ y))
theorem srt_mem (l : List T) (x : T) : x ∈ srt l ↔ x ∈ l := List.mem_mergeSort
theorem srt_len (l : List T) : (srt l).length = l.length := List.length_mergeSort l
theorem srt_sorted (l : List T) : (srt l).Pairwise (· ≤ ·) := by
  have h := List.pairwise_mergeSort (le := fun x y : T => decide (x ≤ y)) (by
    intro a b c h1 h2
    exact decide_eq_true (List.le_trans (of_decide_eq_true h1) (of_decide_eq_true h2))) (by
    intro a b
    rcases List.le_total a b with h | h
    · simp [h]
    · simp [h]) l
  exact h.imp fun h => of_decide_eq_true h
/-- the book of a list -/
@[irreducible] def bk (l : List T) : List T := Lib.compact (srt l)
theorem bk_eq (l : List T) : Lib.compact (srt l) = bk l := by unfold bk; rfl
theorem upto_spec (d : Array T) (hs : ∀ i j, i < j → j < d.size → d[i]! ≤ d[j]!) : ∀ m, m ≤ d.size → (Lib.compactUpTo d m).Pairwise (· < ·) ∧ (∀ x, x ∈ Lib.compactUpTo d m ↔ ∃ j, j < m ∧ d[j]! = x) := by
  intro m
  induction m with
  | zero => intro _; exact ⟨by simp [Lib.compactUpTo], fun x => by simp [Lib.compactUpTo]⟩
  | succ m ih =>
    intro hm
    obtain ⟨h1, h2⟩ := ih (by omega)
    rw [Lib.compactUpTo_succ]
    by_cases hk : Lib.keeps d m = true
    · rw [if_pos hk]
      have hlt : ∀ x ∈ Lib.compactUpTo d m, x < d[m]! := fun x hx => by
        obtain ⟨j, hj, rfl⟩ := (h2 x).1 hx
        have hm0 : m ≠ 0 := by omega
        have h3 : d[m - 1]! < d[m]! := by
          refine le_lt (hs _ _ (by omega) (by omega)) fun e => ?_
          unfold Lib.keeps at hk
          simp [hm0, e] at hk
        rcases Nat.lt_or_ge j (m - 1) with h | h
        · exact List.lt_of_le_of_lt (hs j (m - 1) h (by omega)) h3
        · rw [show j = m - 1 by omega]; exact h3
      refine ⟨List.pairwise_append.2 ⟨h1, List.pairwise_singleton _ _, fun a ha b hb => ?_⟩, fun x => ?_⟩
      · rw [List.mem_singleton] at hb; subst hb; exact hlt a ha
      · rw [List.mem_append, h2, List.mem_singleton]
        constructor
        · rintro (⟨j, hj, e⟩ | e)
          · exact ⟨j, by omega, e⟩
          · exact ⟨m, by omega, e.symm⟩
        · rintro ⟨j, hj, e⟩
          rcases Nat.lt_or_ge j m with h | h
          · exact .inl ⟨j, h, e⟩
          · exact .inr (by rw [← e, show j = m by omega])
    · rw [if_neg hk, List.append_nil]
      have hm0 : m ≠ 0 := fun e => hk (by subst e; simp [Lib.keeps])
      have he : d[m]! = d[m - 1]! := by
        unfold Lib.keeps at hk
        simp [hm0] at hk
        exact hk
      refine ⟨h1, fun x => ?_⟩
      rw [h2]
      constructor
      · rintro ⟨j, hj, e⟩; exact ⟨j, by omega, e⟩
      · rintro ⟨j, hj, e⟩
        rcases Nat.lt_or_ge j m with h | h
        · exact ⟨j, h, e⟩
        · exact ⟨m - 1, by omega, by rw [← e, show j = m by omega, he]⟩
theorem bk_spec (l : List T) : (bk l).Pairwise (· < ·) ∧ ∀ x, x ∈ bk l ↔ x ∈ l := by
  have hp := srt_sorted l
  have h := upto_spec (srt l).toArray (fun i j hij hj => by
    have hj' : j < (srt l).length := by simpa using hj
    have := List.pairwise_iff_getElem.1 hp i j (by omega) hj' hij
    rw [getElem!_pos _ i (by simp; omega), getElem!_pos _ j (by simpa using hj')]
    simpa using this) (srt l).length (by simp)
  rw [← bk_eq]
  refine ⟨h.1, fun x => ?_⟩
  show x ∈ Lib.compactUpTo (srt l).toArray (srt l).length ↔ _
  rw [h.2, ← srt_mem l x]
  constructor
  · rintro ⟨j, hj, rfl⟩
    rw [getElem!_pos _ j (by simpa using hj)]
    simp
  · intro hx
    obtain ⟨j, hj, rfl⟩ := List.mem_iff_getElem.1 hx
    exact ⟨j, hj, by rw [getElem!_pos _ j (by simpa using hj)]; simp⟩
theorem bk_len (l : List T) : (bk l).length ≤ l.length := by
  rw [← bk_eq, ← srt_len l]
  show ((List.filter _ (List.range _)).map _).length ≤ _
  rw [List.length_map]
  exact Nat.le_trans (List.length_filter_le _ _) (by simp)
/-- how many of a book are below a text -/
@[irreducible] def plc (b : List T) (s : T) : Nat := b.countP fun x => decide (x < s)
theorem plc_eq (b : List T) (s : T) : plc b s = b.countP fun x => decide (x < s) := by unfold plc; rfl
theorem plc_le (b : List T) (s : T) : plc b s ≤ b.length := by rw [plc_eq]; exact List.countP_le_length
theorem plc_at {b : List T} (hb : b.Pairwise (· < ·)) {k : Nat} (hk : k < b.length) : plc b b[k] = k := by
  rw [plc_eq]
  induction b generalizing k with
  | nil => simp at hk
  | cons x b ih =>
    obtain ⟨h1, h2⟩ := List.pairwise_cons.1 hb
    cases k with
    | zero =>
      rw [List.countP_cons]
      have : b.countP (fun y => decide (y < x)) = 0 := List.countP_eq_zero.2 fun y hy => by
        have := lt_asy (h1 y hy); simpa using this
      simp [this, lt_irr x]
    | succ k =>
      have hk' : k < b.length := by simpa using hk
      have h3 := h1 b[k] (List.getElem_mem hk')
      rw [List.countP_cons]
      have := ih h2 hk'
      simp only [List.getElem_cons_succ]
      rw [this]
      simp [h3]
theorem plc_mem {b : List T} (hb : b.Pairwise (· < ·)) {s : T} (hs : s ∈ b) : b[plc b s]? = some s := by
  obtain ⟨k, hk, rfl⟩ := List.mem_iff_getElem.1 hs
  rw [plc_at hb hk, List.getElem?_eq_getElem hk]
theorem plc_lt {b : List T} (hb : b.Pairwise (· < ·)) {s : T} (hs : s ∈ b) : plc b s < b.length := (List.getElem?_eq_some_iff.1 (plc_mem hb hs)).1
/-- places of a list's texts -/
def cds (l : List T) : List Nat := l.map (plc (bk l))
theorem cds_len (l : List T) : (cds l).length = l.length := by simp [cds]
theorem cds_lt (l : List T) : ∀ x ∈ cds l, x < (bk l).length := fun x hx => by
  obtain ⟨s, hs, rfl⟩ := List.mem_map.1 hx
  exact plc_lt (bk_spec l).1 (((bk_spec l).2 s).2 hs)
/-- too many, or one too long? -/
def mny (l : List T) : Bool := decide (64 < l.length) || l.any fun s => decide (16 < s.length)
theorem mny_false {l : List T} (h : mny l = false) : l.length ≤ 64 ∧ ∀ s ∈ l, s.length ≤ 16 := by
  unfold mny at h
  rw [Bool.or_eq_false_iff, decide_eq_false_iff_not, List.any_eq_false] at h
  exact ⟨by omega, fun s hs => by have := h.2 s hs; simp at this; omega⟩
/-- a book is right: each text less than the next one -/
def asc : List T → Bool
  | [] => true
  | [_] => true
  | x :: y :: r => decide (x < y) && asc (y :: r)
theorem asc_iff (b : List T) : asc b = true ↔ b.Pairwise (· < ·) := by
  induction b with
  | nil => simp [asc]
  | cons x b ih =>
    cases b with
    | nil => simp [asc]
    | cons y r =>
      rw [asc, Bool.and_eq_true, decide_eq_true_eq, ih, List.pairwise_cons (a := x)]
      constructor
      · rintro ⟨h1, h2⟩
        refine ⟨fun z hz => ?_, h2⟩
        rcases List.mem_cons.1 hz with rfl | hz
        · exact h1
        · exact lt_tr h1 ((List.pairwise_cons.1 h2).1 z hz)
      · rintro ⟨h1, h2⟩; exact ⟨h1 y (by simp), h2⟩
@[irreducible] def chk (b : List T) : Nat := if mny b = true then 2 else if asc b = true then 0 else 4
theorem chk_many {b : List T} (h : mny b = true) : chk b = 2 := by unfold chk; rw [if_pos h]
theorem chk_ok {b : List T} (h : mny b = false) (h2 : asc b = true) : chk b = 0 := by unfold chk; rw [if_neg (by simp [h]), if_pos h2]
theorem chk_state {b : List T} (h : mny b = false) (h2 : asc b = false) : chk b = 4 := by unfold chk; rw [if_neg (by simp [h]), if_neg (by simp [h2])]
theorem chk_zero {b : List T} (h : chk b = 0) : mny b = false ∧ b.Pairwise (· < ·) := by
  unfold chk at h
  split at h
  · cases h
  · split at h
    · rename_i h1 h2; exact ⟨by simpa using h1, (asc_iff b).1 h2⟩
    · cases h
theorem chk_cases (b : List T) : chk b = 0 ∨ chk b = 2 ∨ chk b = 4 := by unfold chk; (repeat' split) <;> simp
/-- in a list that is not right two neighbours are not -/
theorem asc_take (b : List T) (k : Nat) (hk : k + 1 < b.length) (h : asc (b.take (k + 1)) = true) : asc (b.take (k + 2)) = decide (b[k] < b[k + 1]) := by
  have h1 := (asc_iff _).1 h
  have e : b.take (k + 2) = b.take (k + 1) ++ [b[k + 1]] := by rw [List.take_succ_eq_append_getElem hk]
  by_cases hl : b[k] < b[k + 1]
  · rw [decide_eq_true hl, asc_iff, e]
    refine List.pairwise_append.2 ⟨h1, List.pairwise_singleton _ _, fun x hx y hy => ?_⟩
    rw [List.mem_singleton] at hy
    subst hy
    obtain ⟨j, hj, rfl⟩ := List.mem_iff_getElem.1 hx
    rw [List.length_take] at hj
    rw [List.getElem_take]
    rcases Nat.lt_or_ge j k with h3 | h3
    · have := List.pairwise_iff_getElem.1 h1 j k (by rw [List.length_take]; omega) (by rw [List.length_take]; omega) h3
      rw [List.getElem_take, List.getElem_take] at this
      exact lt_tr this hl
    · have : j = k := by omega
      subst this; exact hl
  · rw [decide_eq_false hl]
    cases hc : asc (b.take (k + 2)) with
    | false => rfl
    | true =>
      have h2 := (asc_iff _).1 hc
      have := List.pairwise_iff_getElem.1 h2 k (k + 1) (by rw [List.length_take]; omega) (by rw [List.length_take]; omega) (by omega)
      rw [List.getElem_take, List.getElem_take] at this
      exact absurd this hl
theorem asc_false_take (b : List T) (k : Nat) (h : asc (b.take k) = false) : asc b = false := by
  cases hc : asc b with
  | false => rfl
  | true =>
    have h1 := ((asc_iff b).1 hc).sublist (List.take_sublist k b)
    rw [(asc_iff _).2 h1] at h; cases h
/-- texts of places -/
@[irreducible] def txt (b : List T) (c : List Nat) : List T × Nat :=
  if chk b ≠ 0 then ([], chk b) else if 64 < c.length then ([], 2) else if c.all (fun x => decide (x < b.length)) = true then (c.map fun x => b.getD x [], 0) else ([], 3)
theorem txt_bad {b : List T} {c : List Nat} (h : chk b ≠ 0) : txt b c = ([], chk b) := by unfold txt; rw [if_pos h]
theorem txt_many {b : List T} {c : List Nat} (h : chk b = 0) (h2 : 64 < c.length) : txt b c = ([], 2) := by unfold txt; rw [if_neg (fun x => x h), if_pos h2]
theorem txt_range {b : List T} {c : List Nat} (h : chk b = 0) (h2 : ¬ 64 < c.length) {j : Nat} (hj : j < c.length) (h3 : b.length ≤ c[j]) : txt b c = ([], 3) := by
  unfold txt; rw [if_neg (fun x => x h), if_neg h2, if_neg]
  intro e
  have := of_decide_eq_true (List.all_eq_true.1 e c[j] (List.getElem_mem hj))
  omega
theorem txt_ok {b : List T} {c : List Nat} (h : chk b = 0) (h2 : ¬ 64 < c.length) (h3 : ∀ j (hj : j < c.length), c[j] < b.length) : txt b c = (c.map fun x => b.getD x [], 0) := by
  unfold txt; rw [if_neg (fun x => x h), if_neg h2, if_pos]
  refine List.all_eq_true.2 fun x hx => ?_
  obtain ⟨j, hj, rfl⟩ := List.mem_iff_getElem.1 hx
  exact decide_eq_true (h3 j hj)
/-- a list comes of its book and its places -/
theorem txt_back (l : List T) (h : mny l = false) : txt (bk l) (cds l) = (l, 0) := by
  obtain ⟨h1, h2⟩ := mny_false h
  obtain ⟨s1, s2⟩ := bk_spec l
  have hb : mny (bk l) = false := by
    unfold mny
    rw [Bool.or_eq_false_iff, decide_eq_false_iff_not, List.any_eq_false]
    exact ⟨by have := bk_len l; omega, fun s hs => by have := h2 s ((s2 s).1 hs); simp; omega⟩
  rw [txt_ok (chk_ok hb ((asc_iff _).2 s1)) (by rw [cds_len]; omega) (fun j hj => cds_lt l _ (List.getElem_mem hj))]
  unfold cds
  rw [List.map_map]
  congr 1
  conv => rhs; rw [← List.map_id l]
  refine List.map_congr_left fun s hs => ?_
  show (bk l).getD (plc (bk l) s) [] = s
  rw [List.getD_eq_getElem?_getD, plc_mem s1 ((s2 s).2 hs)]; rfl
theorem bk_chk (l : List T) (h : mny l = false) : chk (bk l) = 0 := by
  have := txt_back l h
  cases hc : chk (bk l) with
  | zero => rfl
  | succ n => rw [txt_bad (by rw [hc]; exact Nat.succ_ne_zero n), hc] at this; injection this with _ h
/-- places stand in the order of texts -/
theorem plc_mono {b : List T} (hb : b.Pairwise (· < ·)) {s t : T} (hs : s ∈ b) (ht : t ∈ b) : plc b s < plc b t ↔ s < t := by
  obtain ⟨i, hi, rfl⟩ := List.mem_iff_getElem.1 hs
  obtain ⟨k, hk, rfl⟩ := List.mem_iff_getElem.1 ht
  rw [plc_at hb hi, plc_at hb hk]
  constructor
  · intro h; exact List.pairwise_iff_getElem.1 hb i k hi hk h
  · intro h
    rcases Nat.lt_trichotomy i k with h1 | h1 | h1
    · exact h1
    · subst h1; exact absurd h (lt_irr _)
    · exact absurd (List.pairwise_iff_getElem.1 hb k i hk hi h1) (lt_asy h)
theorem plc_inj {b : List T} (hb : b.Pairwise (· < ·)) {s t : T} (hs : s ∈ b) (ht : t ∈ b) : plc b s = plc b t ↔ s = t := by
  refine ⟨fun h => ?_, fun h => by rw [h]⟩
  have h1 := plc_mem hb hs
  rw [h, plc_mem hb ht] at h1
  exact (Option.some.inj h1).symm
/-- how many of a book are not above a text -/
def ple (b : List T) (s : T) : Nat := b.countP fun x => decide (x ≤ s)
end Hy.Dct
namespace Hy.Dct
/-- each text once, where it comes first -/
def nubS (acc : List T) (x : T) : List T := if x ∈ acc then acc else acc ++ [x]
def nub (l : List T) : List T := l.foldl nubS []
theorem nub_snoc (l : List T) (x : T) : nub (l ++ [x]) = nubS (nub l) x := by simp [nub]
theorem nub_spec (l : List T) : (nub l).Nodup ∧ ∀ x, x ∈ nub l ↔ x ∈ l := by
  generalize hn : l.length = n
  induction n generalizing l with
  | zero => rw [List.length_eq_zero_iff.1 hn]; simp [nub]
  | succ n ih =>
    rcases List.eq_nil_or_concat l with rfl | ⟨l', x, rfl⟩
    · simp at hn
    · rw [List.concat_eq_append] at hn ⊢
      obtain ⟨h1, h2⟩ := ih l' (by simpa using hn)
      rw [nub_snoc]
      unfold nubS
      split
      · rename_i h
        refine ⟨h1, fun y => ?_⟩
        rw [h2, List.mem_append, List.mem_singleton]
        constructor
        · exact .inl
        · rintro (h3 | rfl)
          · exact h3
          · exact (h2 _).1 h
      · rename_i h
        refine ⟨List.nodup_append.2 ⟨h1, by simp, fun a ha b hb => ?_⟩, fun y => by rw [List.mem_append, List.mem_append, h2]⟩
        rw [List.mem_singleton] at hb
        subst hb
        intro e; subst e; exact h ha
theorem nub_plc (l : List T) (s : T) : (nub l).countP (fun x => decide (x < s)) = plc (bk l) s := by
  rw [plc_eq]
  obtain ⟨h1, h2⟩ := nub_spec l
  obtain ⟨h3, h4⟩ := bk_spec l
  have h5 : (bk l).Nodup := h3.imp fun h e => by subst e; exact lt_irr _ h
  exact (List.perm_ext_iff_of_nodup h1 h5 |>.2 fun a => by rw [h2, h4]).countP_eq _
/-- the document's count, so far -/
def cntB (l : List T) (s : T) (m : Nat) : Nat := (nub (l.take m)).countP fun x => decide (x < s)
theorem cntB_step (l : List T) (s : T) (m : Nat) (hm : m < l.length) : cntB l s (m + 1) = if l[m] ∉ l.take m ∧ l[m] < s then cntB l s m + 1 else cntB l s m := by
  unfold cntB
  rw [List.take_succ_eq_append_getElem hm, nub_snoc]
  unfold nubS
  have h := (nub_spec (l.take m)).2 l[m]
  by_cases h1 : l[m] ∈ l.take m
  · rw [if_pos (h.2 h1), if_neg (fun x => x.1 h1)]
  · rw [if_neg (fun x => h1 (h.1 x)), List.countP_append]
    by_cases h2 : l[m] < s
    · rw [if_pos ⟨h1, h2⟩]; simp [h2]
    · rw [if_neg (fun x => h2 x.2)]; simp [h2]
theorem cntB_all (l : List T) (s : T) : cntB l s l.length = plc (bk l) s := by unfold cntB; rw [List.take_length, nub_plc]
theorem cntB_le (l : List T) (s : T) (m : Nat) : cntB l s m ≤ m := by
  induction m with
  | zero => simp [cntB, nub]
  | succ m ih =>
    by_cases hm : m < l.length
    · rw [cntB_step l s m hm]; split <;> omega
    · unfold cntB at *
      rw [List.take_of_length_le (by omega)] at *; omega
/-- the greatest place but one more -/
def mst : List Nat → Nat
  | [] => 0
  | x :: r => max (x + 1) (mst r)
theorem mst_snoc (l : List Nat) (x : Nat) : mst (l ++ [x]) = max (mst l) (x + 1) := by
  induction l with
  | nil => simp [mst]
  | cons y l ih => simp only [List.cons_append, mst, ih]; omega
theorem mst_ge (l : List Nat) : ∀ x ∈ l, x < mst l := by
  induction l with
  | nil => simp
  | cons y l ih =>
    intro x hx
    rcases List.mem_cons.1 hx with rfl | hx
    · simp only [mst]; omega
    · have := ih x hx; simp only [mst]; omega
theorem mst_le (l : List Nat) (n : Nat) (h : ∀ x ∈ l, x < n) : mst l ≤ n := by
  induction l with
  | nil => simp [mst]
  | cons y l ih =>
    have h1 := h y (by simp)
    have h2 := ih fun x hx => h x (by simp [hx])
    simp only [mst]; omega
theorem mst_cds (l : List T) : mst (cds l) = (bk l).length := by
  obtain ⟨s1, s2⟩ := bk_spec l
  refine Nat.le_antisymm (mst_le _ _ (cds_lt l)) ?_
  rcases Nat.eq_zero_or_pos (bk l).length with h | h
  · omega
  · have hk : (bk l).length - 1 < (bk l).length := by omega
    have hm : (bk l).length - 1 ∈ cds l := List.mem_map.2 ⟨(bk l)[(bk l).length - 1], (s2 _).1 (List.getElem_mem hk), plc_at s1 hk⟩
    have := mst_ge _ _ hm
    omega
theorem cds_has (l : List T) (n : Nat) (h : n < (bk l).length) : ∃ i, ∃ hi : i < l.length, plc (bk l) l[i] = n := by
  obtain ⟨s1, s2⟩ := bk_spec l
  obtain ⟨i, hi, e⟩ := List.mem_iff_getElem.1 ((s2 _).1 (List.getElem_mem h))
  exact ⟨i, hi, by rw [e, plc_at s1 h]⟩
theorem cds_text (l : List T) (n i : Nat) (hi : i < l.length) (h : plc (bk l) l[i] = n) : (bk l)[n]? = some l[i] := by
  obtain ⟨s1, s2⟩ := bk_spec l
  rw [← h]; exact plc_mem s1 ((s2 _).2 (List.getElem_mem hi))
end Hy.Dct
end
section
namespace Hy.Dct
open Go
theorem bless (a b : T) : Op.bytesLess a b = decide (a < b) := by
  induction a generalizing b with
  | nil => cases b <;> simp [Op.bytesLess]
  | cons x a ih =>
    cases b with
    | nil => simp [Op.bytesLess]
    | cons y b =>
      rw [Front.less_cons, ih]
      by_cases h : x = y
      · subst h; simp
      · simp [List.cons_lt_cons_iff, h]
theorem nless (a b : T) : numsLess (a.map UInt8.toNat) (b.map UInt8.toNat) = decide (a < b) := by
  induction a generalizing b with
  | nil => cases b <;> simp [numsLess]
  | cons x a ih =>
    cases b with
    | nil => simp [numsLess]
    | cons y b =>
      simp only [List.map_cons, numsLess, ih]
      by_cases h : x = y
      · subst h; simp
      · have h2 : ¬ x.toNat = y.toNat := fun e => h (UInt8.toNat.inj e)
        simp [List.cons_lt_cons_iff, h, h2, UInt8.lt_iff_toNat_lt]
theorem tless_eq (a b : T) : Cel.tless ⟨a.toArray⟩ ⟨b.toArray⟩ = decide (a < b) := nless a b
end Hy.Dct
end
