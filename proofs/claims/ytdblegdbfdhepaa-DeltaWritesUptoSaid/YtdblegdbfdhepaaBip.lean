/- Bits: plain words and laws. No program in sight. -/
import Derived.Test.YtdblegdbfdhepaaNum
import Derived.Lib.BitFns
namespace Hy.Bits
open Go

/-! ### the least byte first -/
def le : List UInt8 → Nat
  | [] => 0
  | b :: l => b.toNat + 256 * le l
def leb (n : Nat) : Nat → List UInt8
  | 0 => []
  | k + 1 => UInt8.ofNat n :: leb (n / 256) k
theorem leb_len (n k : Nat) : (leb n k).length = k := by
  induction k generalizing n with
  | zero => rfl
  | succ k ih => simp [leb, ih]
theorem le_lt (l : List UInt8) : le l < 256 ^ l.length := by
  induction l with
  | nil => simp [le]
  | cons b l ih =>
    rw [le, List.length_cons, Nat.pow_succ']
    have := b.toNat_lt
    omega
theorem le_leb (n k : Nat) : le (leb n k) = n % 256 ^ k := by
  induction k generalizing n with
  | zero => simp [leb, le, Nat.mod_one]
  | succ k ih =>
    have e1 : n % 256 ^ (k + 1) = n % 256 + 256 * (n / 256 % 256 ^ k) := by rw [Nat.pow_succ']; exact Nat.mod_mul
    rw [leb, le, ih, UInt8.toNat_ofNat', e1]
theorem leb_le (l : List UInt8) : leb (le l) l.length = l := by
  induction l with
  | nil => rfl
  | cons b l ih =>
    have h := b.toNat_lt
    rw [List.length_cons, leb, le, show (b.toNat + 256 * le l) / 256 = le l from by omega, ih]
    congr 1
    apply UInt8.toNat.inj
    rw [UInt8.toNat_ofNat']; omega
theorem leb_add (n k j : Nat) : leb n (k + j) = leb n k ++ leb (n / 256 ^ k) j := by
  induction k generalizing n with
  | zero => simp [leb]
  | succ k ih => rw [Nat.succ_add, leb, leb, ih, Nat.div_div_eq_div_mul, ← Nat.pow_succ']; rfl
theorem leb_snoc (n k : Nat) : leb n (k + 1) = leb n k ++ [UInt8.ofNat (n / 256 ^ k)] := by rw [leb_add]; rfl
theorem leb_low (n x k : Nat) : leb (n + x * 256 ^ k) k = leb n k := by
  induction k generalizing n with
  | zero => rfl
  | succ k ih =>
    have e0 : x * 256 ^ (k + 1) = 256 * (x * 256 ^ k) := by rw [Nat.pow_succ', Nat.mul_left_comm]
    have e1 : (n + x * 256 ^ (k + 1)) / 256 = n / 256 + x * 256 ^ k := by rw [e0]; generalize x * 256 ^ k = q; omega
    have e2 : UInt8.ofNat (n + x * 256 ^ (k + 1)) = UInt8.ofNat n := by
      apply UInt8.toNat.inj
      rw [UInt8.toNat_ofNat', UInt8.toNat_ofNat', e0]; generalize x * 256 ^ k = q; omega
    rw [leb, leb, e1, e2, ih]
theorem leb_get (n k i : Nat) (h : i < k) : (leb n k)[i]? = some (UInt8.ofNat (n / 256 ^ i)) := by
  induction k generalizing n i with
  | zero => omega
  | succ k ih =>
    cases i with
    | zero => simp [leb]
    | succ i => rw [leb, List.getElem?_cons_succ, ih _ _ (by omega), Nat.div_div_eq_div_mul, ← Nat.pow_succ']
theorem le_get (s : List UInt8) (i : Nat) (h : i < s.length) : s[i].toNat = le s / 256 ^ i % 256 := by
  have h1 := leb_get (le s) s.length i h
  rw [leb_le, List.getElem?_eq_getElem h, Option.some.injEq] at h1
  rw [h1, UInt8.toNat_ofNat']
theorem le_app (a b : List UInt8) : le (a ++ b) = le a + 256 ^ a.length * le b := by
  induction a with
  | nil => simp [le]
  | cons x a ih => rw [List.cons_append, le, le, ih, List.length_cons, Nat.pow_succ']; rw [Nat.mul_add, Nat.mul_assoc]; omega
theorem p256 (k : Nat) : (256 : Nat) ^ k = 2 ^ (8 * k) := by rw [Nat.pow_mul]

/-! ### a list of numbers as one -/
def num (w : Nat) : List Nat → Nat
  | [] => 0
  | n :: l => n + 2 ^ w * num w l
theorem num_app (w : Nat) (a b : List Nat) : num w (a ++ b) = num w a + 2 ^ (a.length * w) * num w b := by
  induction a with
  | nil => simp [num]
  | cons n a ih =>
    rw [List.cons_append, num, num, ih, List.length_cons, Nat.succ_mul, Nat.pow_add, Nat.mul_add, ← Nat.mul_assoc, Nat.mul_comm (2 ^ w) (2 ^ (a.length * w))]; omega
theorem num_snoc (w : Nat) (l : List Nat) (n : Nat) : num w (l ++ [n]) = num w l + n * 2 ^ (l.length * w) := by
  rw [num_app]; simp [num, Nat.mul_comm]
theorem num_lt (w : Nat) (l : List Nat) (h : ∀ n ∈ l, n < 2 ^ w) : num w l < 2 ^ (l.length * w) := by
  induction l with
  | nil => simp [num]
  | cons n l ih =>
    have h1 := h n (by simp)
    have h2 := ih fun m hm => h m (by simp [hm])
    rw [num, List.length_cons, Nat.succ_mul, Nat.pow_add, Nat.mul_comm _ (2 ^ w)]
    have h3 : 2 ^ w * (num w l + 1) ≤ 2 ^ w * 2 ^ (l.length * w) := Nat.mul_le_mul_left _ h2
    rw [Nat.mul_add, Nat.mul_one] at h3
    omega
/-- one of them -/
theorem num_get (w : Nat) (l : List Nat) (h : ∀ n ∈ l, n < 2 ^ w) (i : Nat) (hi : i < l.length) : num w l / 2 ^ (i * w) % 2 ^ w = l[i] := by
  induction l generalizing i with
  | nil => simp at hi
  | cons n l ih =>
    have h1 := h n (by simp)
    cases i with
    | zero => simp only [num, Nat.zero_mul, Nat.pow_zero, Nat.div_one, List.getElem_cons_zero, Nat.add_mul_mod_self_left]; exact Nat.mod_eq_of_lt h1
    | succ i =>
      rw [num, Nat.succ_mul, Nat.add_comm (i * w) w, Nat.pow_add, ← Nat.div_div_eq_div_mul, Nat.add_mul_div_left _ _ (Nat.two_pow_pos w), Nat.div_eq_of_lt h1, Nat.zero_add, List.getElem_cons_succ]
      exact ih (fun m hm => h m (by simp [hm])) i (by simpa using hi)
/-- how many bytes -/
def size (many w : Nat) : Nat := (many * w + 7) / 8
@[irreducible] def packed (l : List Nat) (w : Nat) : List UInt8 := leb (num w l) (size l.length w)
theorem packed_eq (l : List Nat) (w : Nat) : packed l w = leb (num w l) (size l.length w) := by unfold packed; rfl
theorem packed_len (l : List Nat) (w : Nat) : (packed l w).length = size l.length w := by rw [packed_eq, leb_len]
theorem pow_size (many w : Nat) : 2 ^ (many * w) ≤ 256 ^ size many w := by
  rw [p256]; exact Nat.pow_le_pow_right (by decide) (by unfold size; omega)
theorem le_packed (l : List Nat) (w : Nat) (h : ∀ n ∈ l, n < 2 ^ w) : le (packed l w) = num w l := by
  rw [packed_eq, le_leb]; exact Nat.mod_eq_of_lt (Nat.lt_of_lt_of_le (num_lt w l h) (pow_size _ _))
@[irreducible] def unp (s : List UInt8) (many w : Nat) : List Nat := (List.range many).map fun i => le s / 2 ^ (i * w) % 2 ^ w
theorem unp_eq (s : List UInt8) (many w : Nat) : unp s many w = (List.range many).map fun i => le s / 2 ^ (i * w) % 2 ^ w := by unfold unp; rfl
theorem unp_len (s : List UInt8) (many w : Nat) : (unp s many w).length = many := by rw [unp_eq]; simp
theorem unp_get (s : List UInt8) (many w i : Nat) (h : i < many) : (unp s many w)[i]'(by rw [unp_len]; exact h) = le s / 2 ^ (i * w) % 2 ^ w := by
  simp [unp_eq]
theorem unp_snoc (s : List UInt8) (many w : Nat) : unp s (many + 1) w = unp s many w ++ [le s / 2 ^ (many * w) % 2 ^ w] := by
  rw [unp_eq, unp_eq, List.range_succ, List.map_append]; rfl
theorem unp_lt (s : List UInt8) (many w : Nat) : ∀ n ∈ unp s many w, n < 2 ^ w := by
  intro n hn
  rw [unp_eq, List.mem_map] at hn
  obtain ⟨i, _, rfl⟩ := hn
  exact Nat.mod_lt _ (Nat.two_pow_pos w)
/-- what is packed is unpacked -/
theorem unp_packed (l : List Nat) (w : Nat) (h : ∀ n ∈ l, n < 2 ^ w) : unp (packed l w) l.length w = l := by
  apply List.ext_getElem (by rw [unp_len])
  intro i h1 h2
  rw [unp_get _ _ _ _ h2, le_packed l w h, num_get w l h i h2]
theorem num_unp (s : List UInt8) (many w : Nat) : num w (unp s many w) = le s % 2 ^ (many * w) := by
  induction many with
  | zero => simp [unp_eq, num, Nat.mod_one]
  | succ m ih =>
    rw [unp_snoc, num_snoc, ih, unp_len, Nat.succ_mul, Nat.pow_add, Nat.mod_mul, Nat.mul_comm (2 ^ (m * w))]
/-- what is unpacked is packed as it stood -/
theorem packed_unp (s : List UInt8) (many w : Nat) (hl : s.length = size many w) (hv : le s < 2 ^ (many * w)) : packed (unp s many w) w = s := by
  rw [packed_eq, num_unp, unp_len, Nat.mod_eq_of_lt hv, ← hl, leb_le]
/-- of two lists, the first one filling its bytes -/
theorem packed_app (a b : List Nat) (w : Nat) (ha : ∀ n ∈ a, n < 2 ^ w) (h8 : a.length * w % 8 = 0) : packed (a ++ b) w = packed a w ++ packed b w := by
  have e1 : size (a ++ b).length w = size a.length w + size b.length w := by
    unfold size
    rw [List.length_append, Nat.add_mul]
    generalize a.length * w = x at *
    generalize b.length * w = y at *
    omega
  have e2 : 8 * size a.length w = a.length * w := by unfold size; generalize a.length * w = x at *; omega
  have e3 : 256 ^ size a.length w = 2 ^ (a.length * w) := by rw [p256, e2]
  rw [packed_eq, packed_eq, packed_eq, e1, leb_add, num_app, Nat.mul_comm (2 ^ _), ← e3, leb_low]
  congr 2
  rw [Nat.mul_comm, Nat.add_mul_div_left _ _ (Nat.pow_pos (by decide)), Nat.div_eq_of_lt (by rw [e3]; exact num_lt w a ha), Nat.zero_add]

/-! ### the sink -/
/-- bits are laid behind those that are there -/
theorem put_step (U T x k : Nat) (hU : U < 2 ^ T) (hx : x < 2 ^ k) :
    U + x * 2 ^ T < 2 ^ (T + k) ∧ U / 256 ^ (T / 8) < 2 ^ (T % 8) ∧ (leb U (T / 8 + 1)).set (T / 8) (UInt8.ofNat (U / 256 ^ (T / 8) + x * 2 ^ (T % 8))) = leb (U + x * 2 ^ T) (T / 8 + 1) := by
  have eT : 2 ^ T = 256 ^ (T / 8) * 2 ^ (T % 8) := by rw [p256, ← Nat.pow_add, Nat.div_add_mod]
  have hp : 0 < 256 ^ (T / 8) := Nat.pow_pos (by decide)
  refine ⟨?_, ?_, ?_⟩
  · rw [Nat.pow_add]
    have : (x + 1) * 2 ^ T ≤ 2 ^ k * 2 ^ T := Nat.mul_le_mul_right _ hx
    rw [Nat.add_mul, Nat.one_mul, Nat.mul_comm (2 ^ k)] at this
    omega
  · rw [Nat.div_lt_iff_lt_mul hp, Nat.mul_comm, ← eT]; exact hU
  · have e1 : U + x * 2 ^ T = U + (x * 2 ^ (T % 8)) * 256 ^ (T / 8) := by rw [eT, Nat.mul_assoc, Nat.mul_comm (256 ^ _)]
    rw [leb_snoc, leb_snoc, e1, leb_low, List.set_append_right _ _ (by rw [leb_len]; exact Nat.le_refl _), leb_len, Nat.sub_self, List.set_cons_zero, Nat.add_mul_div_right _ _ hp]
theorem put_zero (U T : Nat) (hU : U < 2 ^ T) (h : T % 8 = 0) : leb U (T / 8) ++ [0] = leb U (T / 8 + 1) := by
  have eT : 2 ^ T = 256 ^ (T / 8) := by rw [p256]; congr 1; omega
  have h2 : U < 256 ^ (T / 8) := by rw [← eT]; exact hU
  rw [leb_snoc, Nat.div_eq_of_lt h2]; rfl

theorem put_next (U T n j k : Nat) : U + n % 2 ^ (j + k) * 2 ^ T = U + n % 2 ^ j * 2 ^ T + n / 2 ^ j % 2 ^ k * 2 ^ (T + j) := by
  rw [Nat.pow_add 2 j k, Nat.mod_mul, Nat.add_mul, Nat.pow_add 2 T j, Nat.mul_comm (2 ^ j) (n / 2 ^ j % 2 ^ k), Nat.mul_assoc, Nat.mul_comm (2 ^ j) (2 ^ T), Nat.add_assoc]
theorem div_next (n j k : Nat) : n / 2 ^ (j + k) = n / 2 ^ j / 2 ^ k := by rw [Nat.div_div_eq_div_mul, Nat.pow_add]
theorem and_mask (m k : Nat) (hm : m < 2 ^ 64) (hk : k ≤ 63) : bits .and .u64 (m : Int) ((2 ^ k : Nat) - 1 : Int) = ((m % 2 ^ k : Nat) : Int) := by
  have hp := Nat.two_pow_pos k
  have hle : 2 ^ k ≤ 2 ^ 63 := Nat.pow_le_pow_right (by decide) hk
  have h1 : (BitVec.ofInt 64 (m : Int)).toNat = m := by rw [BitVec.ofInt_natCast, BitVec.toNat_ofNat]; exact Nat.mod_eq_of_lt hm
  have h2 : (BitVec.ofInt 64 ((2 ^ k : Nat) - 1 : Int)).toNat = 2 ^ k - 1 := by
    rw [show ((2 ^ k : Nat) - 1 : Int) = ((2 ^ k - 1 : Nat) : Int) from by omega, BitVec.ofInt_natCast, BitVec.toNat_ofNat]; exact Nat.mod_eq_of_lt (by omega)
  show IntKind.u64.wrap ((BitVec.ofInt 64 (m : Int) &&& BitVec.ofInt 64 ((2 ^ k : Nat) - 1 : Int)).toNat : Int) = _
  rw [BitVec.toNat_and, h1, h2, Nat.and_two_pow_sub_one_eq_mod]
  have := Nat.mod_lt m hp
  show ((m % 2 ^ k : Nat) : Int) % 18446744073709551616 = _
  omega
theorem or_u8 (a b h : Nat) (ha : a < 2 ^ h) (hs : a + b * 2 ^ h < 256) : bits .or .u8 (a : Int) ((b * 2 ^ h : Nat) : Int) = ((a + b * 2 ^ h : Nat) : Int) := by
  have h1 : (BitVec.ofInt 8 (a : Int)).toNat = a := by rw [BitVec.ofInt_natCast, BitVec.toNat_ofNat]; exact Nat.mod_eq_of_lt (by omega)
  have h2 : (BitVec.ofInt 8 ((b * 2 ^ h : Nat) : Int)).toNat = b * 2 ^ h := by rw [BitVec.ofInt_natCast, BitVec.toNat_ofNat]; exact Nat.mod_eq_of_lt (by omega)
  have h3 : a ||| b * 2 ^ h = a + b * 2 ^ h := by
    have := Nat.two_pow_add_eq_or_of_lt (i := h) (b := a) ha b
    rw [Nat.or_comm, Nat.mul_comm b, ← this, Nat.add_comm]
  show IntKind.u8.wrap ((BitVec.ofInt 8 (a : Int) ||| BitVec.ofInt 8 ((b * 2 ^ h : Nat) : Int)).toNat : Int) = _
  rw [BitVec.toNat_or, h1, h2, h3]
  show ((a + b * 2 ^ h : Nat) : Int) % 256 = _
  omega
/-! ### widths -/
theorem bitLenAux_gt : ∀ (f x : Nat), x < 2 ^ f → x < 2 ^ Lib.bitLenAux f x
  | 0, x, h => by simpa [Lib.bitLenAux] using h
  | f + 1, x, h => by
    simp only [Lib.bitLenAux]
    split
    · subst x; simp
    · have := bitLenAux_gt f (x / 2) (by rw [Nat.pow_succ] at h; omega)
      rw [Nat.add_comm, Nat.pow_succ]; omega
theorem bitLen_le_iff (x k : Nat) (h : x < 2 ^ 64) (hk : k ≤ 64) : Lib.bitLen x ≤ k ↔ x < 2 ^ k :=
  ⟨fun hb => Nat.lt_of_lt_of_le (bitLenAux_gt 64 x h) (Nat.pow_le_pow_right (by decide) hb), Lib.bitLen_le x k hk⟩
theorem bitLen_le64 (x : Nat) (h : x < 2 ^ 64) : Lib.bitLen x ≤ 64 := Lib.bitLen_le x 64 (by decide) h
/-- the width of a list -/
def width : List Nat → Nat
  | [] => 0
  | n :: l => max (Lib.bitLen n) (width l)
theorem width_le64 (l : List Nat) (h : ∀ n ∈ l, n < 2 ^ 64) : width l ≤ 64 := by
  induction l with
  | nil => simp [width]
  | cons n l ih =>
    have := bitLen_le64 n (h n (by simp))
    have := ih fun m hm => h m (by simp [hm])
    simp only [width]; omega
theorem width_le_iff (l : List Nat) (k : Nat) (h : ∀ n ∈ l, n < 2 ^ 64) (hk : k ≤ 64) : width l ≤ k ↔ ∀ n ∈ l, n < 2 ^ k := by
  induction l with
  | nil => simp [width]
  | cons n l ih =>
    have h1 := bitLen_le_iff n k (h n (by simp)) hk
    have h2 := ih fun m hm => h m (by simp [hm])
    simp only [width, List.mem_cons, forall_eq_or_imp]
    rw [← h1, ← h2]; omega
theorem width_app (a b : List Nat) : width (a ++ b) = max (width a) (width b) := by
  induction a with
  | nil => simp [width]
  | cons n a ih => rw [List.cons_append, width, width, ih]; omega
def orAll : List Nat → Nat
  | [] => 0
  | n :: l => n ||| orAll l
theorem orAll_snoc (l : List Nat) (n : Nat) : orAll (l ++ [n]) = orAll l ||| n := by
  induction l with
  | nil => simp [orAll]
  | cons m l ih => rw [List.cons_append, orAll, ih, orAll, Nat.or_assoc]
theorem orAll_lt_iff (l : List Nat) (k : Nat) : orAll l < 2 ^ k ↔ ∀ n ∈ l, n < 2 ^ k := by
  induction l with
  | nil => simp [orAll, Nat.two_pow_pos]
  | cons n l ih =>
    simp only [orAll, List.mem_cons, forall_eq_or_imp]
    rw [← ih]
    refine ⟨fun h => ⟨Nat.lt_of_le_of_lt Nat.left_le_or h, Nat.lt_of_le_of_lt Nat.right_le_or h⟩, fun h => Nat.or_lt_two_pow h.1 h.2⟩
theorem bitLen_orAll (l : List Nat) (h : ∀ n ∈ l, n < 2 ^ 64) : Lib.bitLen (orAll l) = width l := by
  have ho : orAll l < 2 ^ 64 := (orAll_lt_iff l 64).2 h
  have h1 := bitLen_le64 _ ho
  have h2 := width_le64 l h
  refine Nat.le_antisymm ?_ ?_
  · rw [bitLen_le_iff _ _ ho h2, orAll_lt_iff, ← width_le_iff l _ h h2]; exact Nat.le_refl _
  · rw [width_le_iff l _ h h1, ← orAll_lt_iff, ← bitLen_le_iff _ _ ho h1]; exact Nat.le_refl _
/-- does a number fit? -/
def fitsB (x k : Nat) : Bool := decide (Lib.bitLen x ≤ k)
theorem fitsB_true {x k : Nat} (h : Lib.bitLen x ≤ k) : fitsB x k = true := decide_eq_true h
theorem fitsB_false {x k : Nat} (h : k < Lib.bitLen x) : fitsB x k = false := decide_eq_false (by omega)
theorem width_snoc (l : List Nat) (n : Nat) : width (l ++ [n]) = max (width l) (Lib.bitLen n) := by rw [width_app]; simp [width]
theorem mod_div_mod (A w h k : Nat) (hk : h + k ≤ w) : A % 2 ^ w / 2 ^ h % 2 ^ k = A / 2 ^ h % 2 ^ k := by
  have e : 2 ^ w = 2 ^ h * 2 ^ (w - h) := by rw [← Nat.pow_add]; congr 1; omega
  rw [e, Nat.mod_mul_right_div_self, Nat.mod_mod_of_dvd]
  exact Nat.pow_dvd_pow 2 (by omega)
theorem byte_bits (V F k : Nat) (hk : F % 8 + k ≤ 8) : V / 256 ^ (F / 8) % 256 / 2 ^ (F % 8) % 2 ^ k = V / 2 ^ F % 2 ^ k := by
  have h := mod_div_mod (V / 256 ^ (F / 8)) 8 (F % 8) k hk
  rw [show (2 : Nat) ^ 8 = 256 from rfl] at h
  rw [h, p256, Nat.div_div_eq_div_mul, ← Nat.pow_add, Nat.div_add_mod]
theorem take_bits (A g k : Nat) : A % 2 ^ (g + k) = A % 2 ^ g + A / 2 ^ g % 2 ^ k * 2 ^ g := by
  rw [Nat.pow_add, Nat.mod_mul, Nat.mul_comm (2 ^ g)]
theorem num_bit (w : Nat) (l : List Nat) (h : ∀ n ∈ l, n < 2 ^ w) (b : Nat) (hb : b < l.length * w) (hi : b / w < l.length) : l[b / w] / 2 ^ (b % w) % 2 = num w l / 2 ^ b % 2 := by
  have hw : 0 < w := by rcases Nat.eq_zero_or_pos w with rfl | h; (· simp at hb); exact h
  have hr := Nat.mod_lt b hw
  have := mod_div_mod (num w l / 2 ^ (b / w * w)) w (b % w) 1 (by omega)
  rw [← num_get w l h (b / w) hi]
  rw [Nat.pow_one] at this
  rw [this, Nat.div_div_eq_div_mul, ← Nat.pow_add, Nat.div_add_mod']
theorem half_step (V i c : Nat) : V / 2 ^ i % 2 ^ (c + 1) = V / 2 ^ (i + 1) % 2 ^ c * 2 + V / 2 ^ i % 2 := by
  have e : 2 ^ i * 2 = 2 ^ (i + 1) := (Nat.pow_succ 2 i).symm
  rw [Nat.pow_succ' (n := c), Nat.mod_mul, Nat.div_div_eq_div_mul, e]; omega
theorem top_byte (V b : Nat) (n : Nat) (hV : V < 256 ^ n) (hn : n = b / 8 + 1) : V / 256 ^ (b / 8) % 256 = V / 256 ^ (b / 8) := by
  apply Nat.mod_eq_of_lt
  rw [Nat.div_lt_iff_lt_mul (Nat.pow_pos (by decide)), ← Nat.pow_succ']
  subst hn; exact hV

/-- Pack: the bytes, what is wrong -/
def pk (l : List Nat) (w : Int) : List UInt8 × Nat :=
  if ¬ (0 ≤ w ∧ w ≤ 64) then ([], 3) else if 64 < l.length then ([], 2) else if w < width l then ([], 8) else (packed l w.toNat, 0)
/-- what is wrong with a text -/
def chk (s : List UInt8) (many w : Int) : Nat :=
  if ¬ (0 ≤ w ∧ w ≤ 64) ∨ many < 0 then 3 else if 64 < many then 2 else if s.length ≠ size many.toNat w.toNat then 1 else if le s < 2 ^ (many.toNat * w.toNat) then 0 else 1
/-- Unpack: the numbers -/
@[irreducible] def up (s : List UInt8) (many w : Int) : List Nat := if chk s many w = 0 then unp s many.toNat w.toNat else []
theorem up_ok (s : List UInt8) (many w : Int) (h : chk s many w = 0) : up s many w = unp s many.toNat w.toNat := by unfold up; rw [if_pos h]
theorem up_bad (s : List UInt8) (many w : Int) (h : chk s many w ≠ 0) : up s many w = [] := by unfold up; rw [if_neg h]
theorem chk_ok {s : List UInt8} {many w : Int} (h : chk s many w = 0) : 0 ≤ w ∧ w ≤ 64 ∧ 0 ≤ many ∧ many ≤ 64 ∧ s.length = size many.toNat w.toNat ∧ le s < 2 ^ (many.toNat * w.toNat) := by
  unfold chk at h
  split at h
  · cases h
  · split at h
    · cases h
    · split at h
      · cases h
      · split at h
        · omega
        · cases h
theorem chk_of {s : List UInt8} {many w : Nat} (h1 : w ≤ 64) (h2 : many ≤ 64) (h3 : s.length = size many w) (h4 : le s < 2 ^ (many * w)) : chk s many w = 0 := by
  unfold chk
  rw [if_neg (by omega), if_neg (by omega), if_neg (by simpa using h3), if_pos (by simpa using h4)]
theorem chk_cases (s : List UInt8) (many w : Int) : chk s many w = 0 ∨ chk s many w = 1 ∨ chk s many w = 2 ∨ chk s many w = 3 := by
  unfold chk; split; simp; split; simp; split; simp; split <;> simp
end Hy.Bits
