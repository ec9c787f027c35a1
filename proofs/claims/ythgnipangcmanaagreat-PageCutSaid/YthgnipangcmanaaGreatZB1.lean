/- Texts of this claim, put together: walks and plain laws. -/
import Derived.Test.YthgnipangcmanaaGreatZG1
import Derived.Test.YthgnipangcmanaaGreatRows
import Derived.Test.YthgnipangcmanaaGreatShelf
import Derived.Test.YthgnipangcmanaaGreatZV1
import Derived.Lib.BitFns
section
namespace Hy.Bits
open Go
/-! ### the least byte first -/
def le : List UInt8 → Nat
  | [] => 0
  | b :: l => b.toNat + 256 * le l
def leb (n : Nat) : Nat → List UInt8
  | 0 => []
  | k + 1 => UInt8.ofNat n :: leb (n / 256) k
theorem leb_len (n k : Nat) : (leb n k).length = k := by
  induction k generalizing n with
  | zero => rfl
  | succ k ih => simp [leb, ih]
theorem le_lt (l : List UInt8) : le l < 256 ^ l.length := by
  induction l with
  | nil => simp [le]
  | cons b l ih =>
    rw [le, List.length_cons, Nat.pow_succ']
    have := b.toNat_lt
    omega
theorem le_leb (n k : Nat) : le (leb n k) = n % 256 ^ k := by
  induction k generalizing n with
  | zero => simp [leb, le, Nat.mod_one]
  | succ k ih =>
    have e1 : n % 256 ^ (k + 1) = n % 256 + 256 * (n / 256 % 256 ^ k) := by rw [Nat.pow_succ']; exact Nat.mod_mul
    rw [leb, le, ih, UInt8.toNat_ofNat', e1]
theorem leb_le (l : List UInt8) : leb (le l) l.length = l := by
  induction l with
  | nil => rfl
  | cons b l ih =>
    have h := b.toNat_lt
    rw [List.length_cons, leb, le, show (b.toNat + 256 * le l) / 256 = le l from by omega, ih]
    congr 1
    apply UInt8.toNat.inj
    rw [UInt8.toNat_ofNat']; omega
theorem leb_add (n k j : Nat) : leb n (k + j) = leb n k ++ leb (n / 256 ^ k) j := by
  induction k generalizing n with
  | zero => simp [leb]
  | succ k ih => rw [Nat.succ_add, leb, leb, ih, Nat.div_div_eq_div_mul, ← Nat.pow_succ']; rfl
theorem leb_snoc (n k : Nat) : leb n (k + 1) = leb n k ++ [UInt8.ofNat (n / 256 ^ k)] := by rw [leb_add]; rfl
theorem leb_low (n x k : Nat) : leb (n + x * 256 ^ k) k = leb n k := by
  induction k generalizing n with
  | zero => rfl
  | succ k ih =>
    have e0 : x * 256 ^ (k + 1) = 256 * (x * 256 ^ k) := by rw [Nat.pow_succ', Nat.mul_left_comm]
    have e1 : (n + x * 256 ^ (k + 1)) / 256 = n / 256 + x * 256 ^ k := by rw [e0]; generalize x * 256 ^ k = q; omega
    have e2 : UInt8.ofNat (n + x * 256 ^ (k + 1)) = UInt8.ofNat n := by
      apply UInt8.toNat.inj
      rw [UInt8.toNat_ofNat', UInt8.toNat_ofNat', e0]; generalize x * 256 ^ k = q; omega
    rw [leb, leb, e1, e2, ih]
theorem leb_get (n k i : Nat) (h : i < k) : (leb n k)[i]? = some (UInt8.ofNat (n / 256 ^ i)) := by
  induction k generalizing n i with
  | zero => omega
  | succ k ih =>
    cases i with
    | zero => simp [leb]
    | succ i => rw [leb, List.getElem?_cons_succ, ih _ _ (by omega), Nat.div_div_eq_div_mul, ← Nat.pow_succ']
theorem le_get (s : List UInt8) (i : Nat) (h : i < s.length) : s[i].toNat = le s / 256 ^ i % 256 := by
  have h1 := leb_get (le s) s.length i h
  rw [leb_le, List.getElem?_eq_getElem h, Option.some.injEq] at h1
  rw [h1, UInt8.toNat_ofNat']
theorem p256 (k : Nat) : (256 : Nat) ^ k = 2 ^ (8 * k) := by rw [Nat.pow_mul]
/-! ### a list of numbers as one -/
def num (w : Nat) : List Nat → Nat
  | [] => 0
  | n :: l => n + 2 ^ w * num w l
theorem num_app (w : Nat) (a b : List Nat) : num w (a ++ b) = num w a + 2 ^ (a.length * w) * num w b := by
  induction a with
  | nil => simp [num]
  | cons n a ih =>
    rw [List.cons_append, num, num, ih, List.length_cons, Nat.succ_mul, Nat.pow_add, Nat.mul_add, ← Nat.mul_assoc, Nat.mul_comm (2 ^ w) (2 ^ (a.length * w))]; omega
theorem num_snoc (w : Nat) (l : List Nat) (n : Nat) : num w (l ++ [n]) = num w l + n * 2 ^ (l.length * w) := by
  rw [num_app]; simp [num, Nat.mul_comm]
theorem num_lt (w : Nat) (l : List Nat) (h : ∀ n ∈ l, n < 2 ^ w) : num w l < 2 ^ (l.length * w) := by
  induction l with
  | nil => simp [num]
  | cons n l ih =>
    have h1 := h n (by simp)
    have h2 := ih fun m hm => h m (by simp [hm])
    rw [num, List.length_cons, Nat.succ_mul, Nat.pow_add, Nat.mul_comm _ (2 ^ w)]
    have h3 : 2 ^ w * (num w l + 1) ≤ 2 ^ w * 2 ^ (l.length * w) := Nat.mul_le_mul_left _ h2
    rw [Nat.mul_add, Nat.mul_one] at h3
    omega
theorem num_get (w : Nat) (l : List Nat) (h : ∀ n ∈ l, n < 2 ^ w) (i : Nat) (hi : i < l.length) : num w l / 2 ^ (i * w) % 2 ^ w = l[i] := by
  induction l generalizing i with
  | nil => simp at hi
  | cons n l ih =>
    have h1 := h n (by simp)
    cases i with
    | zero => simp only [num, Nat.zero_mul, Nat.pow_zero, Nat.div_one, List.getElem_cons_zero, Nat.add_mul_mod_self_left]; exact Nat.mod_eq_of_lt h1
    | succ i =>
      rw [num, Nat.succ_mul, Nat.add_comm (i * w) w, Nat.pow_add, ← Nat.div_div_eq_div_mul, Nat.add_mul_div_left _ _ (Nat.two_pow_pos w), Nat.div_eq_of_lt h1, Nat.zero_add, List.getElem_cons_succ]
      exact ih (fun m hm => h m (by simp [hm])) i (by simpa using hi)
def size (many w : Nat) : Nat := (many * w + 7) / 8
@[irreducible] def packed (l : List Nat) (w : Nat) : List UInt8 := leb (num w l) (size l.length w)
theorem packed_eq (l : List Nat) (w : Nat) : packed l w = leb (num w l) (size l.length w) := by unfold packed; rfl
theorem packed_len (l : List Nat) (w : Nat) : (packed l w).length = size l.length w := by rw [packed_eq, leb_len]
theorem pow_size (many w : Nat) : 2 ^ (many * w) ≤ 256 ^ size many w := by
  rw [p256]; exact Nat.pow_le_pow_right (by decide) (by unfold size; omega)
theorem le_packed (l : List Nat) (w : Nat) (h : ∀ n ∈ l, n < 2 ^ w) : le (packed l w) = num w l := by
  rw [packed_eq, le_leb]; exact Nat.mod_eq_of_lt (Nat.lt_of_lt_of_le (num_lt w l h) (pow_size _ _))
@[irreducible] def unp (s : List UInt8) (many w : Nat) : List Nat := (List.range many).map fun i => le s / 2 ^ (i * w) % 2 ^ w
theorem unp_eq (s : List UInt8) (many w : Nat) : unp s many w = (List.range many).map fun i => le s / 2 ^ (i * w) % 2 ^ w := by unfold unp; rfl
theorem unp_len (s : List UInt8) (many w : Nat) : (unp s many w).length = many := by rw [unp_eq]; simp
theorem unp_get (s : List UInt8) (many w i : Nat) (h : i < many) : (unp s many w)[i]'(by rw [unp_len]; exact h) = le s / 2 ^ (i * w) % 2 ^ w := by
  simp [unp_eq]
theorem unp_snoc (s : List UInt8) (many w : Nat) : unp s (many + 1) w = unp s many w ++ [le s / 2 ^ (many * w) % 2 ^ w] := by
  rw [unp_eq, unp_eq, List.range_succ, List.map_append]; rfl
theorem unp_lt (s : List UInt8) (many w : Nat) : ∀ n ∈ unp s many w, n < 2 ^ w := by
  intro n hn
  rw [unp_eq, List.mem_map] at hn
  obtain ⟨i, _, rfl⟩ := hn
  exact Nat.mod_lt _ (Nat.two_pow_pos w)
theorem unp_packed (l : List Nat) (w : Nat) (h : ∀ n ∈ l, n < 2 ^ w) : unp (packed l w) l.length w = l := by
  apply List.ext_getElem (by rw [unp_len])
  intro i h1 h2
  rw [unp_get _ _ _ _ h2, le_packed l w h, num_get w l h i h2]
/-! ### the sink -/
theorem put_step (U T x k : Nat) (hU : U < 2 ^ T) (hx : x < 2 ^ k) :
    U + x * 2 ^ T < 2 ^ (T + k) ∧ U / 256 ^ (T / 8) < 2 ^ (T % 8) ∧ (leb U (T / 8 + 1)).set (T / 8) (UInt8.ofNat (U / 256 ^ (T / 8) + x * 2 ^ (T % 8))) = leb (U + x * 2 ^ T) (T / 8 + 1) := by
  have eT : 2 ^ T = 256 ^ (T / 8) * 2 ^ (T % 8) := by rw [p256, ← Nat.pow_add, Nat.div_add_mod]
  have hp : 0 < 256 ^ (T / 8) := Nat.pow_pos (by decide)
  refine ⟨?_, ?_, ?_⟩
  · rw [Nat.pow_add]
    have : (x + 1) * 2 ^ T ≤ 2 ^ k * 2 ^ T := Nat.mul_le_mul_right _ hx
    rw [Nat.add_mul, Nat.one_mul, Nat.mul_comm (2 ^ k)] at this
    omega
  · rw [Nat.div_lt_iff_lt_mul hp, Nat.mul_comm, ← eT]; exact hU
  · have e1 : U + x * 2 ^ T = U + (x * 2 ^ (T % 8)) * 256 ^ (T / 8) := by rw [eT, Nat.mul_assoc, Nat.mul_comm (256 ^ _)]
    rw [leb_snoc, leb_snoc, e1, leb_low, List.set_append_right _ _ (by rw [leb_len]; exact Nat.le_refl _), leb_len, Nat.sub_self, List.set_cons_zero, Nat.add_mul_div_right _ _ hp]
theorem put_zero (U T : Nat) (hU : U < 2 ^ T) (h : T % 8 = 0) : leb U (T / 8) ++ [0] = leb U (T / 8 + 1) := by
  have eT : 2 ^ T = 256 ^ (T / 8) := by rw [p256]; congr 1; omega
  have h2 : U < 256 ^ (T / 8) := by rw [← eT]; exact hU
  rw [leb_snoc, Nat.div_eq_of_lt h2]; rfl
theorem put_next (U T n j k : Nat) : U + n % 2 ^ (j + k) * 2 ^ T = U + n % 2 ^ j * 2 ^ T + n / 2 ^ j % 2 ^ k * 2 ^ (T + j) := by
  rw [Nat.pow_add 2 j k, Nat.mod_mul, Nat.add_mul, Nat.pow_add 2 T j, Nat.mul_comm (2 ^ j) (n / 2 ^ j % 2 ^ k), Nat.mul_assoc, Nat.mul_comm (2 ^ j) (2 ^ T), Nat.add_assoc]
theorem div_next (n j k : Nat) : n / 2 ^ (j + k) = n / 2 ^ j / 2 ^ k := by rw [Nat.div_div_eq_div_mul, Nat.pow_add]
theorem and_mask (m k : Nat) (hm : m < 2 ^ 64) (hk : k ≤ 63) : bits .and .u64 (m : Int) ((2 ^ k : Nat) - 1 : Int) = ((m % 2 ^ k : Nat) : Int) := by
  have hp := Nat.two_pow_pos k
  have hle : 2 ^ k ≤ 2 ^ 63 := Nat.pow_le_pow_right (by decide) hk
  have h1 : (BitVec.ofInt 64 (m : Int)).toNat = m := by rw [BitVec.ofInt_natCast, BitVec.toNat_ofNat]; exact Nat.mod_eq_of_lt hm
  have h2 : (BitVec.ofInt 64 ((2 ^ k : Nat) - 1 : Int)).toNat = 2 ^ k - 1 := by
    rw [show ((2 ^ k : Nat) - 1 : Int) = ((2 ^ k - 1 : Nat) : Int) from by omega, BitVec.ofInt_natCast, BitVec.toNat_ofNat]; exact Nat.mod_eq_of_lt (by omega)
  show IntKind.u64.wrap ((BitVec.ofInt 64 (m : Int) &&& BitVec.ofInt 64 ((2 ^ k : Nat) - 1 : Int)).toNat : Int) = _
  rw [BitVec.toNat_and, h1, h2, Nat.and_two_pow_sub_one_eq_mod]
  have := Nat.mod_lt m hp
  show ((m % 2 ^ k : Nat) : Int) % 18446744073709551616 = _
  omega
theorem or_u8 (a b h : Nat) (ha : a < 2 ^ h) (hs : a + b * 2 ^ h < 256) : bits .or .u8 (a : Int) ((b * 2 ^ h : Nat) : Int) = ((a + b * 2 ^ h : Nat) : Int) := by
  have h1 : (BitVec.ofInt 8 (a : Int)).toNat = a := by rw [BitVec.ofInt_natCast, BitVec.toNat_ofNat]; exact Nat.mod_eq_of_lt (by omega)
  have h2 : (BitVec.ofInt 8 ((b * 2 ^ h : Nat) : Int)).toNat = b * 2 ^ h := by rw [BitVec.ofInt_natCast, BitVec.toNat_ofNat]; exact Nat.mod_eq_of_lt (by omega)
  have h3 : a ||| b * 2 ^ h = a + b * 2 ^ h := by
    have := Nat.two_pow_add_eq_or_of_lt (i := h) (b := a) ha b
    rw [Nat.or_comm, Nat.mul_comm b, ← this, Nat.add_comm]
  show IntKind.u8.wrap ((BitVec.ofInt 8 (a : Int) ||| BitVec.ofInt 8 ((b * 2 ^ h : Nat) : Int)).toNat : Int) = _
  rw [BitVec.toNat_or, h1, h2, h3]
  show ((a + b * 2 ^ h : Nat) : Int) % 256 = _
  omega
/-! ### widths -/
theorem bitLenAux_gt : ∀ (f x : Nat), x < 2 ^ f → x < 2 ^ Lib.bitLenAux f x
  | 0, x, h => by simpa [Lib.bitLenAux] using h
  | f + 1, x, h => by
    simp only [Lib.bitLenAux]
    split
    · subst x; simp
    · have := bitLenAux_gt f (x / 2) (by rw [Nat.pow_succ] at h; omega)
      rw [Nat.add_comm, Nat.pow_succ]; omega
theorem bitLen_le_iff (x k : Nat) (h : x < 2 ^ 64) (hk : k ≤ 64) : Lib.bitLen x ≤ k ↔ x < 2 ^ k :=
  ⟨fun hb => Nat.lt_of_lt_of_le (bitLenAux_gt 64 x h) (Nat.pow_le_pow_right (by decide) hb), Lib.bitLen_le x k hk⟩
theorem bitLen_le64 (x : Nat) (h : x < 2 ^ 64) : Lib.bitLen x ≤ 64 := Lib.bitLen_le x 64 (by decide) h
def width : List Nat → Nat
  | [] => 0
  | n :: l => max (Lib.bitLen n) (width l)
theorem width_le64 (l : List Nat) (h : ∀ n ∈ l, n < 2 ^ 64) : width l ≤ 64 := by
  induction l with
  | nil => simp [width]
  | cons n l ih =>
    have := bitLen_le64 n (h n (by simp))
    have := ih fun m hm => h m (by simp [hm])
    simp only [width]; omega
theorem width_le_iff (l : List Nat) (k : Nat) (h : ∀ n ∈ l, n < 2 ^ 64) (hk : k ≤ 64) : width l ≤ k ↔ ∀ n ∈ l, n < 2 ^ k := by
  induction l with
  | nil => simp [width]
  | cons n l ih =>
    have h1 := bitLen_le_iff n k (h n (by simp)) hk
    have h2 := ih fun m hm => h m (by simp [hm])
    simp only [width, List.mem_cons, forall_eq_or_imp]
    rw [← h1, ← h2]; omega
theorem width_app (a b : List Nat) : width (a ++ b) = max (width a) (width b) := by
  induction a with
  | nil => simp [width]
  | cons n a ih => rw [List.cons_append, width, width, ih]; omega
def orAll : List Nat → Nat
  | [] => 0
  | n :: l => n ||| orAll l
theorem orAll_snoc (l : List Nat) (n : Nat) : orAll (l ++ [n]) = orAll l ||| n := by
  induction l with
  | nil => simp [orAll]
  | cons m l ih => rw [List.cons_append, orAll, ih, orAll, Nat.or_assoc]
theorem orAll_lt_iff (l : List Nat) (k : Nat) : orAll l < 2 ^ k ↔ ∀ n ∈ l, n < 2 ^ k := by
  induction l with
  | nil => simp [orAll, Nat.two_pow_pos]
  | cons n l ih =>
    simp only [orAll, List.mem_cons, forall_eq_or_imp]
    rw [← ih]
    refine ⟨fun h => ⟨Nat.lt_of_le_of_lt Nat.left_le_or h, Nat.lt_of_le_of_lt Nat.right_le_or h⟩, fun h => Nat.or_lt_two_pow h.1 h.2⟩
theorem bitLen_orAll (l : List Nat) (h : ∀ n ∈ l, n < 2 ^ 64) : Lib.bitLen (orAll l) = width l := by
  have ho : orAll l < 2 ^ 64 := (orAll_lt_iff l 64).2 h
  have h1 := bitLen_le64 _ ho
  have h2 := width_le64 l h
  refine Nat.le_antisymm ?_ ?_
  · rw [bitLen_le_iff _ _ ho h2, orAll_lt_iff, ← width_le_iff l _ h h2]; exact Nat.le_refl _
  · rw [width_le_iff l _ h h1, ← orAll_lt_iff, ← bitLen_le_iff _ _ ho h1]; exact Nat.le_refl _
def fitsB (x k : Nat) : Bool := decide (Lib.bitLen x ≤ k)
theorem fitsB_true {x k : Nat} (h : Lib.bitLen x ≤ k) : fitsB x k = true := decide_eq_true h
theorem fitsB_false {x k : Nat} (h : k < Lib.bitLen x) : fitsB x k = false := decide_eq_false (by omega)
theorem width_snoc (l : List Nat) (n : Nat) : width (l ++ [n]) = max (width l) (Lib.bitLen n) := by rw [width_app]; simp [width]
theorem mod_div_mod (A w h k : Nat) (hk : h + k ≤ w) : A % 2 ^ w / 2 ^ h % 2 ^ k = A / 2 ^ h % 2 ^ k := by
  have e : 2 ^ w = 2 ^ h * 2 ^ (w - h) := by rw [← Nat.pow_add]; congr 1; omega
  rw [e, Nat.mod_mul_right_div_self, Nat.mod_mod_of_dvd]
  exact Nat.pow_dvd_pow 2 (by omega)
theorem byte_bits (V F k : Nat) (hk : F % 8 + k ≤ 8) : V / 256 ^ (F / 8) % 256 / 2 ^ (F % 8) % 2 ^ k = V / 2 ^ F % 2 ^ k := by
  have h := mod_div_mod (V / 256 ^ (F / 8)) 8 (F % 8) k hk
  rw [show (2 : Nat) ^ 8 = 256 from rfl] at h
  rw [h, p256, Nat.div_div_eq_div_mul, ← Nat.pow_add, Nat.div_add_mod]
theorem take_bits (A g k : Nat) : A % 2 ^ (g + k) = A % 2 ^ g + A / 2 ^ g % 2 ^ k * 2 ^ g := by
  rw [Nat.pow_add, Nat.mod_mul, Nat.mul_comm (2 ^ g)]
theorem num_bit (w : Nat) (l : List Nat) (h : ∀ n ∈ l, n < 2 ^ w) (b : Nat) (hb : b < l.length * w) (hi : b / w < l.length) : l[b / w] / 2 ^ (b % w) % 2 = num w l / 2 ^ b % 2 := by
  have hw : 0 < w := by rcases Nat.eq_zero_or_pos w with rfl | h; (· simp at hb); exact h
  have hr := Nat.mod_lt b hw
  have := mod_div_mod (num w l / 2 ^ (b / w * w)) w (b % w) 1 (by omega)
  rw [← num_get w l h (b / w) hi]
  rw [Nat.pow_one] at this
  rw [this, Nat.div_div_eq_div_mul, ← Nat.pow_add, Nat.div_add_mod']
theorem half_step (V i c : Nat) : V / 2 ^ i % 2 ^ (c + 1) = V / 2 ^ (i + 1) % 2 ^ c * 2 + V / 2 ^ i % 2 := by
  have e : 2 ^ i * 2 = 2 ^ (i + 1) := (Nat.pow_succ 2 i).symm
  rw [Nat.pow_succ' (n := c), Nat.mod_mul, Nat.div_div_eq_div_mul, e]; omega
theorem top_byte (V b : Nat) (n : Nat) (hV : V < 256 ^ n) (hn : n = b / 8 + 1) : V / 256 ^ (b / 8) % 256 = V / 256 ^ (b / 8) := by
  apply Nat.mod_eq_of_lt
  rw [Nat.div_lt_iff_lt_mul (Nat.pow_pos (by decide)), ← Nat.pow_succ']
  subst hn; exact hV
def pk (l : List Nat) (w : Int) : List UInt8 × Nat :=
  if ¬ (0 ≤ w ∧ w ≤ 64) then ([], 3) else if 64 < l.length then ([], 2) else if w < width l then ([], 8) else (packed l w.toNat, 0)
def chk (s : List UInt8) (many w : Int) : Nat :=
  if ¬ (0 ≤ w ∧ w ≤ 64) ∨ many < 0 then 3 else if 64 < many then 2 else if s.length ≠ size many.toNat w.toNat then 1 else if le s < 2 ^ (many.toNat * w.toNat) then 0 else 1
@[irreducible] def up (s : List UInt8) (many w : Int) : List Nat := if chk s many w = 0 then unp s many.toNat w.toNat else []
theorem up_ok (s : List UInt8) (many w : Int) (h : chk s many w = 0) : up s many w = unp s many.toNat w.toNat := by unfold up; rw [if_pos h]
theorem up_bad (s : List UInt8) (many w : Int) (h : chk s many w ≠ 0) : up s many w = [] := by unfold up; rw [if_neg h]
theorem chk_ok {s : List UInt8} {many w : Int} (h : chk s many w = 0) : 0 ≤ w ∧ w ≤ 64 ∧ 0 ≤ many ∧ many ≤ 64 ∧ s.length = size many.toNat w.toNat ∧ le s < 2 ^ (many.toNat * w.toNat) := by
  unfold chk at h
  split at h
  · cases h
  · split at h
    · cases h
    · split at h
      · cases h
      · split at h
        · omega
        · cases h
theorem chk_of {s : List UInt8} {many w : Nat} (h1 : w ≤ 64) (h2 : many ≤ 64) (h3 : s.length = size many w) (h4 : le s < 2 ^ (many * w)) : chk s many w = 0 := by
  unfold chk
  rw [if_neg (by omega), if_neg (by omega), if_neg (by simpa using h3), if_pos (by simpa using h4)]
theorem chk_cases (s : List UInt8) (many w : Int) : chk s many w = 0 ∨ chk s many w = 1 ∨ chk s many w = 2 ∨ chk s many w = 3 := by
  unfold chk; split; simp; split; simp; split; simp; split <;> simp
end Hy.Bits
end
section
namespace Hy.Bits
open Go
theorem pk_of {l : List Nat} {w : Nat} (h1 : w ≤ 64) (h2 : l.length ≤ 64) (h3 : ∀ n ∈ l, n < 2 ^ w) : pk l w = (packed l w, 0) := by
  have h64 : 2 ^ w ≤ 2 ^ 64 := Nat.pow_le_pow_right (by decide) h1
  have h4 := (width_le_iff l w (fun n hn => Nat.lt_of_lt_of_le (h3 n hn) h64) h1).2 h3
  unfold pk
  rw [if_neg (fun h => h ⟨by omega, by omega⟩), if_neg (by omega), if_neg (by omega), Int.toNat_natCast]
theorem chk_packed {l : List Nat} {w : Nat} (h1 : w ≤ 64) (h2 : l.length ≤ 64) (h3 : ∀ n ∈ l, n < 2 ^ w) : chk (packed l w) l.length w = 0 :=
  chk_of h1 h2 (packed_len l w) (by rw [le_packed l w h3]; exact num_lt w l h3)
end Hy.Bits
end
section
namespace Hy
open Go
theorem or_u64 (a b : Nat) (ha : a < 2 ^ 64) (hb : b < 2 ^ 64) : bits .or .u64 (a : Int) (b : Int) = ((a ||| b : Nat) : Int) := by
  have h1 : (BitVec.ofInt 64 (a : Int)).toNat = a := by rw [BitVec.ofInt_natCast, BitVec.toNat_ofNat]; exact Nat.mod_eq_of_lt ha
  have h2 : (BitVec.ofInt 64 (b : Int)).toNat = b := by rw [BitVec.ofInt_natCast, BitVec.toNat_ofNat]; exact Nat.mod_eq_of_lt hb
  have h3 : a ||| b < 2 ^ 64 := Nat.or_lt_two_pow ha hb
  show IntKind.u64.wrap ((BitVec.ofInt 64 (a : Int) ||| BitVec.ofInt 64 (b : Int)).toNat : Int) = _
  rw [BitVec.toNat_or, h1, h2]
  show ((a ||| b : Nat) : Int) % 18446744073709551616 = _
  omega
end Hy
namespace Go.Proofs.YthgnipangcmanaaGreat
open Go.RowKit Hy
set_option maxHeartbeats 400000 in
theorem width_any (l : List Nat) (A : Option Addr) (n cap : Nat) (w : World) (hn : l.length = n) (hr : Rd w A (u64s l)) (hl : ∀ x ∈ l, x < 18446744073709551616) (hnl : n ≤ 9223372036854775806) :
    Calls Tryz.prog 68 #[.slice A n cap] w fun e w' => e = .returned (.int .i64 (Bits.width l)) ∧ w = w' := by
  have HN := hid hn
  have HA := hid hr
  have HB := hid hl
  have HBL := hid (Bits.bitLen_orAll l hl)
  have HOA := hid ((Bits.orAll_lt_iff l 64).2 hl)
  clear hr hl hn
  go_enter Tryz.func68, Tryz.ntmps68
  go_wp2
  go_loop [3, 5, 8] (fun v _ c => ∃ k : Nat, k ≤ n ∧ c = .int .i64 k ∧ v = .int .u64 (Bits.orAll (l.take k) : Nat)) (fun _ _ c => n - (intOf c).toNat)
  case atStart => exact ⟨0, Nat.zero_le _, rfl, rfl⟩
  case round =>
    obtain ⟨k, hk, rfl, rfl⟩ := hrel
    by_cases hlt : k < n
    · have hka : k < l.length := by rw [HN.out]; exact hlt
      obtain ⟨b1, o1, e1, l1, c1⟩ := HA.out.nums k hka
      subst e1
      have d1 := c1 k hka
      have HS := hid (show Bits.orAll (l.take (k + 1)) = Bits.orAll (l.take k) ||| l[k] by rw [List.take_succ_eq_append_getElem hka, Bits.orAll_snoc])
      have hx := HB.out l[k] (List.getElem_mem hka)
      have hy : Bits.orAll (l.take k) < 2 ^ 64 := (Bits.orAll_lt_iff _ 64).2 fun m hm => HB.out m (List.mem_of_mem_take hm)
      have ho := or_u64 (Bits.orAll (l.take k)) l[k] hy hx
      clear c1 hx hy
      generalize l[k] = x at *
      generalize Bits.orAll (l.take k) = p at *
      clear hka
      go_wp2
      go_round
      case rel => exact ⟨k + 1, by omega, by go_num, by rw [HS.out]⟩
      case measure => simp [intOf]; omega
    · obtain rfl : k = n := by omega
      have e1 : l.take k = l := List.take_of_length_le (by rw [HN.out]; exact Nat.le_refl _)
      rw [e1]
      have hb := HOA.out
      have C := fun wx : World => hid (Tryz.bits_Len64 (Bits.orAll l : Nat) wx (by omega) (by omega))
      simp only [Int.toNat_natCast, HBL.out] at C
      generalize Bits.orAll l = p at *
      obtain ⟨q, hq⟩ : ∃ q, q = Bits.width l := ⟨_, rfl⟩
      rw [← hq] at C
      have HQ := hid hq
      clear e1 hb hq
      go_wp2_with (go_at_call 66; refine (C _).out.mono ?_; rintro e w2 ⟨rfl, rfl⟩)
      go_returns
      exact ⟨by rw [← HQ.out]; rfl, rfl⟩
theorem wide_any (k : Int) (w : World) : Calls Tryz.prog 67 #[.int .i64 k] w fun e w' => e = .returned (.bool (decide (0 ≤ k ∧ k ≤ 64))) ∧ w = w' := by
  by_cases h1 : 0 ≤ k
  · by_cases h2 : k ≤ 64
    · have e1 : decide (0 ≤ k ∧ k ≤ 64) = true := decide_eq_true ⟨h1, h2⟩
      rw [e1]
      go_enter Tryz.func67, Tryz.ntmps67
      go_wp2
      go_returns
      exact ⟨rfl, rfl⟩
    · have e1 : decide (0 ≤ k ∧ k ≤ 64) = false := decide_eq_false fun h => h2 h.2
      rw [e1]
      go_enter Tryz.func67, Tryz.ntmps67
      go_wp2
      go_returns
      exact ⟨rfl, rfl⟩
  · have e1 : decide (0 ≤ k ∧ k ≤ 64) = false := decide_eq_false fun h => h1 h.1
    rw [e1]
    go_enter Tryz.func67, Tryz.ntmps67
    go_wp2
    go_returns
    exact ⟨rfl, rfl⟩
theorem size_any (many wd : Nat) (w : World) (h1 : many ≤ 1000000) (h2 : wd ≤ 1000000) : Calls Tryz.prog 177 #[.int .i64 many, .int .i64 wd] w fun e w' => e = .returned (.int .i64 (Bits.size many wd)) ∧ w = w' := by
  have hp : many * wd ≤ 1000000 * 1000000 := Nat.mul_le_mul h1 h2
  have hpI : (many : Int) * (wd : Int) ≤ 1000000000000 := by rw [← Int.natCast_mul]; omega
  have hp0 : 0 ≤ (many : Int) * (wd : Int) := by rw [← Int.natCast_mul]; omega
  have HS := hid (show (Bits.size many wd : Int) = ((many : Int) * (wd : Int) + 7) / 8 by unfold Bits.size; simp)
  clear hp h1 h2
  go_enter Tryz.func177, Tryz.ntmps177
  go_wp2
  go_returns
  exact ⟨ret_int (by rw [HS.out]), rfl⟩
theorem pow2_any (k : Nat) (w : World) (hk : k ≤ 63) : Calls Tryz.prog 163 #[.int .i64 k] w fun e w' => e = .returned (.int .u64 (2 ^ k : Nat)) ∧ w = w' := by
  go_enter Tryz.func163, Tryz.ntmps163
  go_wp2
  go_loop [3, 4] (fun a c => ∃ i : Nat, i ≤ k ∧ c = .int .i64 i ∧ a = .int .u64 (2 ^ i : Nat)) (fun _ c => k - (intOf c).toNat)
  case atStart => exact ⟨0, Nat.zero_le _, rfl, rfl⟩
  case round =>
    obtain ⟨i, hi, rfl, rfl⟩ := hrel
    by_cases hlt : i < k
    · have HS := hid (Nat.pow_succ 2 i)
      have hp : 2 ^ i ≤ 2 ^ 62 := Nat.pow_le_pow_right (by decide) (by omega)
      have hpI : ((2 ^ i : Nat) : Int) ≤ 4611686018427387904 := by omega
      clear hp
      generalize (2 : Nat) ^ i = p at *
      go_wp2
      go_round
      case rel => exact ⟨i + 1, by omega, by go_num, by rw [HS.out]; go_num⟩
      case measure => simp [intOf]; omega
    · obtain rfl : i = k := by omega
      obtain ⟨p, hp⟩ : ∃ p, p = (2 : Nat) ^ i := ⟨_, rfl⟩
      rw [← hp]
      have HP := hid hp
      clear hp
      go_wp2
      go_returns
      exact ⟨ret_int (by rw [HP.out]; simp), rfl⟩
theorem fits_any (x k : Nat) (w : World) (hx : x < 18446744073709551616) (hk : k ≤ 9223372036854775806) : Calls Tryz.prog 129 #[.int .u64 x, .int .i64 k] w fun e w' => e = .returned (.bool (Bits.fitsB x k)) ∧ w = w' := by
  by_cases h64 : 64 ≤ k
  · have HF := hid (Bits.fitsB_true (Nat.le_trans (Bits.bitLen_le64 x hx) h64))
    have h1 : (64 : Int) ≤ (k : Int) := by omega
    clear h64
    go_enter Tryz.func129, Tryz.ntmps129
    go_wp2
    go_returns
    exact ⟨by rw [HF.out]; rfl, rfl⟩
  · have h1 : (k : Int) < 64 := by omega
    have hi := Bits.bitLen_le_iff x k hx (by omega)
    have C := fun wx : World => hid (pow2_any k wx (by omega))
    clear h64
    by_cases hb : Lib.bitLen x ≤ k
    · have HF := hid (Bits.fitsB_true hb)
      have hlt : (x : Int) < ((2 ^ k : Nat) : Int) := by have := hi.1 hb; omega
      clear hi hb
      generalize (2 : Nat) ^ k = p at *
      go_enter Tryz.func129, Tryz.ntmps129
      go_wp2_with (go_at_call 163; refine (C _).out.mono ?_; rintro e w2 ⟨rfl, rfl⟩)
      go_returns
      exact ⟨by rw [HF.out]; rfl, rfl⟩
    · have HF := hid (Bits.fitsB_false (Nat.lt_of_not_le hb))
      have hlt : ¬ (x : Int) < ((2 ^ k : Nat) : Int) := fun h => hb (hi.2 (by omega))
      have hlt2 : decide (x < 2 ^ k) = false := decide_eq_false fun h => hb (hi.2 h)
      have h64 : decide ((64 : Int) ≤ (k : Int)) = false := decide_eq_false (by omega)
      clear hi hb
      generalize (2 : Nat) ^ k = p at *
      go_enter Tryz.func129, Tryz.ntmps129
      go_wp2_with (go_at_call 163; refine (C _).out.mono ?_; rintro e w2 ⟨rfl, rfl⟩)
      go_returns
      exact ⟨by rw [HF.out]; rfl, rfl⟩
set_option maxHeartbeats 400000 in
theorem widthOf_any (l : List Nat) (A : Option Addr) (n cap : Nat) (w : World) (hn : l.length = n) (hr : Rd w A (u64s l)) (hl : ∀ x ∈ l, x < 18446744073709551616) (hnl : n ≤ 9223372036854775806) :
    Calls Tryz.prog 88 #[.slice A n cap] w fun e w' => e = .returned (.int .i64 (Bits.width l)) ∧ w = w' := by
  have HN := hid hn
  have HA := hid hr
  have HB := hid hl
  clear hr hl hn
  go_enter Tryz.func88, Tryz.ntmps88
  go_wp2
  go_loop [3, 4] (fun v c => ∃ k : Nat, k ≤ n ∧ c = .int .i64 k ∧ v = .int .i64 (Bits.width (l.take k))) (fun _ c => n - (intOf c).toNat)
  case atStart => exact ⟨0, Nat.zero_le _, rfl, rfl⟩
  case round =>
    obtain ⟨k, hk, rfl, rfl⟩ := hrel
    by_cases hlt : k < n
    · have hka : k < l.length := by rw [HN.out]; exact hlt
      obtain ⟨b1, o1, e1, l1, c1⟩ := HA.out.nums k hka
      subst e1
      have d1 := c1 k hka
      have HS := hid (show Bits.width (l.take (k + 1)) = max (Bits.width (l.take k)) (Lib.bitLen l[k]) by rw [List.take_succ_eq_append_getElem hka, Bits.width_snoc])
      have hx := HB.out l[k] (List.getElem_mem hka)
      have hb64 := Bits.bitLen_le64 l[k] hx
      have hw64 := Bits.width_le64 (l.take k) fun m hm => HB.out m (List.mem_of_mem_take hm)
      have C := fun (j : Nat) (wx : World) => hid (fits_any l[k] j wx hx)
      have HF1 := hid (fun j => @Bits.fitsB_true l[k] j)
      have HF2 := hid (fun j => @Bits.fitsB_false l[k] j)
      clear c1 hx
      generalize Lib.bitLen l[k] = q at *
      generalize l[k] = x at *
      generalize Bits.width (l.take k) = p at *
      clear hka
      go_wp2
      go_loop [3] (fun v => ∃ j : Nat, p ≤ j ∧ j ≤ max p q ∧ v = .int .i64 j) (fun v => 64 - (intOf v).toNat)
      case atStart => exact ⟨p, Nat.le_refl _, by omega, rfl⟩
      case round =>
        obtain ⟨j, hj1, hj2, rfl⟩ := hrel
        by_cases hjq : j < q
        · have hf := HF2.out j hjq
          have CC := fun wx : World => hid ((C j wx).out (by omega))
          simp only [hf] at CC
          clear hf C
          go_wp2_with (go_at_call 129; refine (CC _).out.mono ?_; rintro e w2 ⟨rfl, rfl⟩)
          go_round
          case rel => exact ⟨j + 1, by omega, by omega, by go_num⟩
          case measure => simp [intOf]; omega
        · have hf := HF1.out j (by omega)
          have CC := fun wx : World => hid ((C j wx).out (by omega))
          simp only [hf] at CC
          clear hf C
          have HJ := hid (show max p q = j by omega)
          go_wp2_with (go_at_call 129; refine (CC _).out.mono ?_; rintro e w2 ⟨rfl, rfl⟩)
          go_round
          case rel => exact ⟨k + 1, by omega, by go_num, by rw [HS.out, HJ.out]⟩
          case measure => simp [intOf]; omega
    · obtain rfl : k = n := by omega
      have e1 : l.take k = l := List.take_of_length_le (by rw [HN.out]; exact Nat.le_refl _)
      rw [e1]
      obtain ⟨q, hq⟩ : ∃ q, q = Bits.width l := ⟨_, rfl⟩
      rw [← hq]
      have HQ := hid hq
      clear e1 hq
      go_wp2
      go_returns
      exact ⟨by rw [← HQ.out]; rfl, rfl⟩
end Go.Proofs.YthgnipangcmanaaGreat
end
section
namespace Hy
open Go Go.RowKit
def Sink (g : Nat) (tk te : TypeId) (U T : Nat) (w : World) : Prop := ∃ v, Blk w g tk #[v, .int .u64 ((T % 8 : Nat) : Int)] ∧ w.ownsRow (g + 1) te 1 v ((T + 7) / 8) (u8s (Bits.leb U ((T + 7) / 8))) ∧ U < 2 ^ T
end Hy
namespace Go.Proofs.YthgnipangcmanaaGreat
open Go.RowKit Hy
set_option maxRecDepth 100000 in
set_option maxHeartbeats 800000 in
theorem put_any (g U T n wd : Nat) (w : World) (hI : Sink g 112 5 U T w) (hT : T ≤ 1000000) (hw : wd ≤ 64) (hn : n < 18446744073709551616) :
    Calls Tryz.prog 98 #[.pointer (some ⟨g, 0, none⟩), .int .u64 n, .int .i64 wd] w fun e w' => e = .returned (.tuple #[]) ∧ Sink g 112 5 (U + n % 2 ^ wd * 2 ^ T) (T + wd) w' ∧ Below g w w' := by
  have HI := hid hI
  clear hI
  go_enter Tryz.func98, Tryz.ntmps98
  go_wp2
  go_loopw [1, 2, 6] (fun a b _ wr => ∃ j : Nat, j ≤ wd ∧ a = .int .u64 (n / 2 ^ j : Nat) ∧ b = .int .i64 (wd - j : Nat) ∧ Sink g 112 5 (U + n % 2 ^ j * 2 ^ T) (T + j) wr ∧ Below g w wr) (fun _ b _ _ => (intOf b).toNat)
  case atStart => exact ⟨0, Nat.zero_le _, by simp, rfl, by simpa [Nat.mod_one] using HI.out, Below.refl _ _⟩
  case round =>
    obtain ⟨j, hj, rfl, rfl, hS, X⟩ := hrel
    by_cases hlt : j < wd
    · obtain ⟨v, B, hown, hU⟩ := hS
      have hm : n / 2 ^ j < 18446744073709551616 := Nat.lt_of_le_of_lt (Nat.div_le_self _ _) hn
      have HN1 := hid (Bits.put_next U T n j)
      have HN2 := hid (Bits.div_next n j)
      generalize U + n % 2 ^ j * 2 ^ T = Uj at *
      generalize n / 2 ^ j = m at *
      obtain ⟨Tj, hTj⟩ : ∃ Tj, Tj = T + j := ⟨_, rfl⟩
      rw [← hTj] at B hown hU
      obtain ⟨h, hh⟩ : ∃ h, h = Tj % 8 := ⟨_, rfl⟩
      rw [← hh] at B
      have h7 : (h : Int) ≤ 7 := by omega
      obtain ⟨d, hd⟩ : ∃ d, d = wd - j := ⟨_, rfl⟩
      rw [← hd]
      have hd1 : (1 : Int) ≤ (d : Int) := by omega
      have hd2 : (d : Int) ≤ 64 := by omega
      have hmI : (m : Int) ≤ 18446744073709551615 := by omega
      have hkk := Int.min_le_left (d : Int) (8 - (h : Int))
      have hkk2 := Int.min_le_right (d : Int) (8 - (h : Int))
      obtain ⟨k, hk⟩ : ∃ k : Nat, min (d : Int) (8 - (h : Int)) = (k : Int) := ⟨(min (d : Int) (8 - (h : Int))).toNat, by omega⟩
      have hk1 : (1 : Int) ≤ (k : Int) := by omega
      have hk8 : (k : Int) + (h : Int) ≤ 8 := by omega
      have hkd : (k : Int) ≤ (d : Int) := by omega
      obtain ⟨p, hp⟩ : ∃ p, p = Tj / 8 := ⟨_, rfl⟩
      have HST := hid (Bits.put_step Uj Tj (m % 2 ^ k) k hU (Nat.mod_lt _ (Nat.two_pow_pos k)))
      have HPZ := hid (Bits.put_zero Uj Tj hU)
      rw [← hp, ← hh] at HST
      rw [← hp, ← hh] at HPZ
      have ha1 : Uj / 256 ^ p < 2 ^ h := HST.out.2.1
      have HCP := hid (show (u8s (Bits.leb Uj (p + 1)))[p]? = some (.int .u8 ((Uj / 256 ^ p : Nat) : Int)) by
        unfold u8s
        have h128 : 2 ^ h ≤ 2 ^ 7 := Nat.pow_le_pow_right (by decide) (by omega)
        rw [List.getElem?_map, Bits.leb_get _ _ _ (Nat.lt_succ_self p), Option.map_some, UInt8.toNat_ofNat', Nat.mod_eq_of_lt (by omega)])
      have hx : m % 2 ^ k < 2 ^ k := Nat.mod_lt _ (Nat.two_pow_pos k)
      have hkN : k + h ≤ 8 := by omega
      have h28 : 2 ^ (k + h) ≤ 2 ^ 8 := Nat.pow_le_pow_right (by decide) hkN
      have hxh : m % 2 ^ k * 2 ^ h + 2 ^ h ≤ 256 := by
        have : (m % 2 ^ k + 1) * 2 ^ h ≤ 2 ^ k * 2 ^ h := Nat.mul_le_mul_right _ hx
        rw [← Nat.pow_add, Nat.add_mul, Nat.one_mul] at this
        omega
      have h2k : 2 ^ k ≤ 2 ^ 8 := Nat.pow_le_pow_right (by decide) (by omega)
      have hw1 : IntKind.u64.wrap ((2 : Int) ^ k) = ((2 ^ k : Nat) : Int) := by
        show ((2 : Int) ^ k) % 18446744073709551616 = _
        rw [show (2 : Int) ^ k = ((2 ^ k : Nat) : Int) from by simp]; omega
      have h2p := Nat.two_pow_pos k
      have hw2 : IntKind.u64.wrap (((2 ^ k : Nat) : Int) - 1) = ((2 ^ k : Nat) : Int) - 1 := by
        show (((2 ^ k : Nat) : Int) - 1) % 18446744073709551616 = _
        omega
      have hw3 := Bits.and_mask m k hm (by omega)
      have hw4 : IntKind.u8.wrap ((m % 2 ^ k : Nat) : Int) = ((m % 2 ^ k : Nat) : Int) := by
        show ((m % 2 ^ k : Nat) : Int) % 256 = _
        omega
      have hw5 : IntKind.u8.wrap (((m % 2 ^ k : Nat) : Int) * 2 ^ h) = ((m % 2 ^ k * 2 ^ h : Nat) : Int) := by
        have := Nat.two_pow_pos h
        show (((m % 2 ^ k : Nat) : Int) * 2 ^ h) % 256 = _
        rw [show ((m % 2 ^ k : Nat) : Int) * (2 : Int) ^ h = ((m % 2 ^ k * 2 ^ h : Nat) : Int) from by simp]; omega
      have hw6 := Bits.or_u8 (Uj / 256 ^ p) (m % 2 ^ k) h ha1 (by omega)
      obtain ⟨z, hz⟩ : ∃ z, z = Uj / 256 ^ p + m % 2 ^ k * 2 ^ h := ⟨_, rfl⟩
      rw [← hz] at hw6 HST
      have hzI : (z : Int) ≤ 255 := by omega
      have HX := hid (Eq.refl (m % 2 ^ k))
      obtain ⟨x, hxe⟩ : ∃ x, x = m % 2 ^ k := ⟨_, rfl⟩
      rw [← hxe] at hw3 hw4 hw5 hw6 HST
      obtain ⟨y, hye⟩ : ∃ y, y = x * 2 ^ h := ⟨_, rfl⟩
      rw [← hye] at hw5 hw6
      obtain ⟨K2, hK2⟩ : ∃ K2 : Int, K2 = ((2 ^ k : Nat) : Int) := ⟨_, rfl⟩
      rw [← hK2] at hw1 hw2 hw3
      obtain ⟨a, hae⟩ : ∃ a, a = Uj / 256 ^ p := ⟨_, rfl⟩
      rw [← hae] at hw6 HCP
      have HXE := hid hxe
      clear hx h28 hxh h2k h2p hz hxe hye hK2 hae HX hkN
      have HTJ := hid hTj
      have HH := hid hh
      have HD := hid hd
      have HP := hid hp
      have HU := hid hU
      by_cases h0 : h = 0
      · have e0 : (Tj + 7) / 8 = p := by omega
        rw [e0] at hown
        have hz : ((h : Int) == 0) = true := by rw [h0]; rfl
        have hpI : (p : Int) ≤ 1000000 := by omega
        have HZ0 := hid (HPZ.out h0)
        have HL := hid (show (Bits.leb Uj p).length = p from Bits.leb_len _ _)
        have hglt := B.lt
        have HO := hid hown
        have HB := hid B
        have hc0 := B.cell 0
        have hc1 := B.cell 1
        clear hTj hh hd hU hm hkk hkk2 hp e0 ha1 h0
        clear B hown
        go_wp2_with (at_builtin; refine wpList_app rfl (.tmp 18) (.tmp 19) rowU8 rfl _ p _ rfl (HO.out.alloc _) _ 1 (u8s [0]) rfl (Src.rd Tryz.underlying42 _ 1 1 _ rfl (rd_lit rfl rfl) (u8s_one _) (fun h => by cases h)) (by unfold maxLen; omega) (by omega) (by simp; omega) ?_; intro v' w3 hown3 hgrow hat hbel; obtain ⟨q, cap, rfl, hq1, hq2⟩ := hown3.form (Nat.succ_pos p); have hB3 := hid ((HB.out.alloc _).below hbel (Nat.lt_succ_self g)); have hO3 := hid hown3; have hc03 := hB3.out.cell 0; have hc13 := hB3.out.cell 1; have hf03 := hB3.out.frozen 0; have hX3 := hid ((X.alloc (Nat.le_of_lt HB.out.lt) _).trans (hbel.mono (Nat.le_succ g))); clear hown3 hgrow hat hbel)
        refine wp_gen (fun w' => Blk w' g 112 #[.slice (some ⟨q, 0, none⟩) (p + 1) cap, .int .u64 (h : Int)] ∧ w'.ownsRow (g + 1) 5 1 (.slice (some ⟨q, 0, none⟩) (p + 1) cap) (p + 1) (u8s (Bits.leb Uj (p + 1))) ∧ Below g w w') ⟨(hB3.out.set 0 _).cast rfl, by rw [← HZ0.out, u8s_app]; exact ownsRow_setCell_below hO3.out (Nat.lt_succ_self g) _, hX3.out.setCell (Nat.le_refl _) _⟩ ?_
        rintro wx ⟨B, hown, X⟩
        have hc0 := B.cell 0
        have hc1 := B.cell 1
        have hf1 := B.frozen 1
        have hcq := hown.cellAt p (by omega)
        have hfq := hown.frozenAt p
        rw [HCP.out] at hcq
        have HO := hid hown
        have HB := hid B
        clear hown B
        have hwp : IntKind.i64.wrap (p : Int) = (p : Int) := IntWalk.i64_in _ (by omega)
        have hwp2 : IntKind.i64.wrap ((p : Int) + 1 - 1) = (p : Int) := by rw [show (p : Int) + 1 - 1 = p from by omega]; exact hwp
        have hp0 : (0 : Int) ≤ (p : Int) := by omega
        have hp1 : (p : Int) < (p : Int) + 1 := by omega
        have hk0 : (0 : Int) ≤ (k : Int) := by omega
        have hk9 : (k : Int) < 64 := by omega
        go_still_tail 25, (by kernel_rfl)
        change wpList _ _ _ _ _ wx.drew
        have hne : ¬ q = g := by omega
        have hne2 : ¬ g = q := by omega
        have hhk : (0 : Int) ≤ (h : Int) := by omega
        clear hw1 hw2 hw3 hw4 hw5 hw6 hwp hwp2
        go_wp2
        go_roundw
        case rel =>
          have e8 : (Tj + k) % 8 = (h + k) % 8 := by rw [HH.out]; omega
          have e9 : (Tj + k + 7) / 8 = p + 1 := by have := HP.out; have := HH.out; omega
          refine ⟨j + k, by have := HD.out; omega, by rw [HN2.out]; simp, by have := HD.out; rw [show wd - (j + k) = d - k by omega]; go_num, ?_, ?_⟩
          · rw [HN1.out, ← HTJ.out, ← HXE.out, show T + (j + k) = Tj + k by rw [HTJ.out]; omega]
            refine ⟨.slice (some ⟨q, 0, none⟩) (p + 1) cap, ?_, ?_, HST.out.1⟩
            · rw [e8]
              refine ((((HB.out.far (p := ⟨q, p, none⟩) hne2 _).drew).set 1 _).cast ?_)
              simp
            · rw [e9, ← HST.out.2.2, ← u8s_set _ _ _ (by omega)]
              exact ownsRow_setCell_below ((HO.out.stored p (.int .u8 (z : Int))).1.drew) (Nat.lt_succ_self g) _
          · exact (((X.setCell (p := ⟨q, p, none⟩) (by show g ≤ q; omega) _).drew).setCell (p := ⟨g, 1, none⟩) (Nat.le_refl _) _)
        case measure => simp [intOf]; omega
      · have e1 : (Tj + 7) / 8 = p + 1 := by omega
        rw [e1] at hown
        have hz : ((h : Int) == 0) = false := by rw [beq_eq_false_iff_ne]; omega
        obtain ⟨q, cap, rfl, hq1, hq2⟩ := hown.form (Nat.succ_pos p)
        have hpI : (p : Int) ≤ 1000000 := by omega
        clear hTj hh hd hU hm hkk hkk2 hp e1 ha1
        have HO := hid hown
        have HB := hid B
        have hc0 := B.cell 0
        have hc1 := B.cell 1
        clear B hown
        go_wp2
        refine wp_gen (fun w' => Blk w' g 112 #[.slice (some ⟨q, 0, none⟩) (p + 1) cap, .int .u64 (h : Int)] ∧ w'.ownsRow (g + 1) 5 1 (.slice (some ⟨q, 0, none⟩) (p + 1) cap) (p + 1) (u8s (Bits.leb Uj (p + 1))) ∧ Below g w w') ⟨HB.out, HO.out, X⟩ ?_
        rintro wx ⟨B, hown, X⟩
        have hc0 := B.cell 0
        have hc1 := B.cell 1
        have hf1 := B.frozen 1
        have hcq := hown.cellAt p (by omega)
        have hfq := hown.frozenAt p
        rw [HCP.out] at hcq
        have HO := hid hown
        have HB := hid B
        clear hown B
        have hwp : IntKind.i64.wrap (p : Int) = (p : Int) := IntWalk.i64_in _ (by omega)
        have hwp2 : IntKind.i64.wrap ((p : Int) + 1 - 1) = (p : Int) := by rw [show (p : Int) + 1 - 1 = p from by omega]; exact hwp
        have hp0 : (0 : Int) ≤ (p : Int) := by omega
        have hp1 : (p : Int) < (p : Int) + 1 := by omega
        have hk0 : (0 : Int) ≤ (k : Int) := by omega
        have hk9 : (k : Int) < 64 := by omega
        go_still_tail 25, (by kernel_rfl)
        change wpList _ _ _ _ _ wx.drew
        have hne : ¬ q = g := by omega
        have hne2 : ¬ g = q := by omega
        have hhk : (0 : Int) ≤ (h : Int) := by omega
        clear hw1 hw2 hw3 hw4 hw5 hw6 hwp hwp2
        go_wp2
        go_roundw
        case rel =>
          have e8 : (Tj + k) % 8 = (h + k) % 8 := by rw [HH.out]; omega
          have e9 : (Tj + k + 7) / 8 = p + 1 := by have := HP.out; have := HH.out; omega
          refine ⟨j + k, by have := HD.out; omega, by rw [HN2.out]; simp, by have := HD.out; rw [show wd - (j + k) = d - k by omega]; go_num, ?_, ?_⟩
          · rw [HN1.out, ← HTJ.out, ← HXE.out, show T + (j + k) = Tj + k by rw [HTJ.out]; omega]
            refine ⟨.slice (some ⟨q, 0, none⟩) (p + 1) cap, ?_, ?_, HST.out.1⟩
            · rw [e8]
              refine ((((HB.out.far (p := ⟨q, p, none⟩) hne2 _).drew).set 1 _).cast ?_)
              simp
            · rw [e9, ← HST.out.2.2, ← u8s_set _ _ _ (by omega)]
              exact ownsRow_setCell_below ((HO.out.stored p (.int .u8 (z : Int))).1.drew) (Nat.lt_succ_self g) _
          · exact (((X.setCell (p := ⟨q, p, none⟩) (by show g ≤ q; omega) _).drew).setCell (p := ⟨g, 1, none⟩) (Nat.le_refl _) _)
        case measure => simp [intOf]; omega
    · obtain rfl : j = wd := by omega
      rw [Nat.sub_self]
      have HS := hid hS
      clear hS
      go_wp2
      go_returns
      exact ⟨rfl, HS.out, X⟩
end Go.Proofs.YthgnipangcmanaaGreat
end
section
namespace Go.Proofs.YthgnipangcmanaaGreat
open Go.RowKit Hy
set_option maxHeartbeats 400000 in
theorem braw_any (l : List Nat) (A : Option Addr) (n cap wd : Nat) (w : World) (hn : l.length = n) (hr : Rd w A (u64s l)) (hl : ∀ x ∈ l, x < 2 ^ wd) (hnl : n ≤ 64) (hwd : wd ≤ 64) :
    Calls Tryz.prog 69 #[.slice A n cap, .int .i64 wd] w fun e w' => e = .returned (.string ⟨(Bits.packed l wd).toArray⟩) ∧ Ext w w' := by
  have HN := hid hn
  have HA := hid hr
  have HB := hid hl
  have HW := hid (Bits.packed_eq l wd)
  have hnI : (n : Int) ≤ 64 := by omega
  have h64 : 2 ^ wd ≤ 2 ^ 64 := Nat.pow_le_pow_right (by decide) hwd
  have H64 := hid h64
  have HWD := hid hwd
  clear hr hl hn hnl h64 hwd
  go_enter Tryz.func69, Tryz.ntmps69
  go_wp2
  go_loopw [7, 10] (fun _ c wr => ∃ k : Nat, k ≤ n ∧ c = .int .i64 k ∧ Sink w.heap.size 112 5 (Bits.num wd (l.take k)) (k * wd) wr ∧ Ext w wr) (fun _ c _ => n - (intOf c).toNat)
  case atStart => exact ⟨0, Nat.zero_le _, rfl, ⟨.slice none 0 0, by rw [Nat.zero_mul]; exact Blk.new _ _ _, by rw [Nat.zero_mul]; exact World.ownsRow_nil _ _ _ _, by rw [Nat.zero_mul]; exact Nat.one_pos⟩, (ext_refl _).new _⟩
  case round =>
    obtain ⟨k, hk, rfl, hS, X⟩ := hrel
    have HS := hid hS
    clear hS
    by_cases hlt : k < n
    · have hka : k < l.length := by rw [HN.out]; exact hlt
      obtain ⟨b1, o1, e1, l1, c1⟩ := HA.out.nums k hka
      subst e1
      have d1 := (X.cell (p := ⟨b1, o1 + k, none⟩) l1).trans (c1 k hka)
      have HQ := hid (show Bits.num wd (l.take (k + 1)) = Bits.num wd (l.take k) + l[k] % 2 ^ wd * 2 ^ (k * wd) by
        rw [List.take_succ_eq_append_getElem hka, Bits.num_snoc, List.length_take, Nat.min_eq_left (Nat.le_of_lt hka), Nat.mod_eq_of_lt (HB.out _ (List.getElem_mem hka))])
      have hT : k * wd ≤ 64 * 64 := Nat.mul_le_mul (by omega) HWD.out
      have hx := Nat.lt_of_lt_of_le (HB.out l[k] (List.getElem_mem hka)) H64.out
      have C := hid (fun wx (h : Sink w.heap.size 112 5 (Bits.num wd (l.take k)) (k * wd) wx) => put_any w.heap.size _ _ l[k] wd wx h (by omega) HWD.out hx)
      have HM := hid (Nat.succ_mul k wd)
      clear c1 hx hT
      generalize l[k] = x at *
      clear hka
      go_wp2_with (go_at_call 98; refine (C.out _ HS.out).mono ?_; rintro e w2 ⟨rfl, hS2, b2⟩; have HS2 := hid hS2; clear hS2)
      go_roundw
      case rel => exact ⟨k + 1, by omega, by go_num, by rw [HQ.out, HM.out]; exact HS2.out, X.trans b2⟩
      case measure => simp [intOf]; omega
    · obtain rfl : k = n := by omega
      obtain ⟨v, B, hown, _⟩ := HS.out
      have e1 : l.take k = l := List.take_of_length_le (by rw [HN.out]; exact Nat.le_refl _)
      rw [e1] at hown
      have e2 : Bits.leb (Bits.num wd l) ((k * wd + 7) / 8) = Bits.packed l wd := by rw [HW.out, HN.out]; rfl
      rw [e2] at hown
      have hs := run_str_own (w := wr) Tryz.underlying42 Tryz.underlying5 Tryz.underlying9 hown
      have hc0 := B.cell 0
      clear hown B e1 e2
      obtain ⟨q, hq⟩ : ∃ q, q = (Bits.packed l wd).toArray := ⟨_, rfl⟩
      rw [← hq] at hs
      have HQ := hid hq
      clear hq
      go_wp2
      go_returns
      exact ⟨by rw [← HQ.out]; rfl, X⟩
end Go.Proofs.YthgnipangcmanaaGreat
end
section
namespace Hy.Bits
open Go
theorem or_u64s (a x g : Nat) (ha : a < 2 ^ g) (hs : a + x * 2 ^ g < 2 ^ 64) : bits .or .u64 (a : Int) ((x * 2 ^ g : Nat) : Int) = ((a + x * 2 ^ g : Nat) : Int) := by
  have h3 : a ||| x * 2 ^ g = a + x * 2 ^ g := by
    have := Nat.two_pow_add_eq_or_of_lt (i := g) (b := a) ha x
    rw [Nat.or_comm, Nat.mul_comm x, ← this, Nat.add_comm]
  rw [or_u64 a (x * 2 ^ g) (by omega) (by omega), h3]
end Hy.Bits
namespace Go.Proofs.YthgnipangcmanaaGreat
open Go.RowKit Hy
set_option maxHeartbeats 800000 in
theorem pull_any (s : ByteArray) (fr wd : Nat) (w : World) (hwd : wd ≤ 64) (hfr : fr + wd ≤ 8 * s.size) (hz : s.size ≤ 1000000) :
    Calls Tryz.prog 153 #[.string s, .int .i64 fr, .int .i64 wd] w fun e w' => e = .returned (.int .u64 (Bits.le s.data.toList / 2 ^ fr % 2 ^ wd : Nat)) ∧ w = w' := by
  obtain ⟨V, hV⟩ : ∃ V, V = Bits.le s.data.toList := ⟨_, rfl⟩
  rw [← hV]
  have HV := hid hV
  clear hV
  go_enter Tryz.func153, Tryz.ntmps153
  go_wp2
  go_loop [1, 6, 7, 8, 9] (fun a b c _ _ => ∃ g : Nat, g ≤ wd ∧ c = .int .i64 g ∧ a = .int .i64 (fr + g : Nat) ∧ b = .int .u64 (V / 2 ^ fr % 2 ^ g : Nat)) (fun _ _ c _ _ => wd - (intOf c).toNat)
  case atStart => exact ⟨0, Nat.zero_le _, rfl, rfl, by rw [Nat.pow_zero, Nat.mod_one]; rfl⟩
  case round =>
    obtain ⟨g, hg, rfl, rfl, rfl⟩ := hrel
    by_cases hlt : g < wd
    · obtain ⟨F, hF⟩ : ∃ F, F = fr + g := ⟨_, rfl⟩
      rw [← hF]
      have hFb : F / 8 < s.size := by omega
      have hFl : F / 8 < s.data.toList.length := by rw [Array.length_toList]; exact hFb
      have hix := fun wx : World => run_ix (P := Tryz.prog) (w := wx) Tryz.underlying9 s .i64 (F / 8) s.data.toList[F / 8] (List.getElem?_eq_getElem hFl)
      have hcv := Bits.le_get s.data.toList (F / 8) hFl
      rw [← HV.out] at hcv
      have hc8 := s.data.toList[F / 8].toNat_lt
      simp only [Int.natCast_ediv, Int.cast_ofNat_Int] at hix
      generalize s.data.toList[F / 8].toNat = c at *
      obtain ⟨k, hk⟩ : ∃ k : Nat, min ((wd : Int) - (g : Int)) (8 - (F : Int) % 8) = (k : Int) := ⟨(min ((wd : Int) - (g : Int)) (8 - (F : Int) % 8)).toNat, by omega⟩
      have hk1 : 1 ≤ k := by omega
      have hk8 : F % 8 + k ≤ 8 := by omega
      have hkg : g + k ≤ wd := by omega
      have hbb := Bits.byte_bits V F k hk8
      rw [← hcv] at hbb
      have hq1 : (c : Int) / 2 ^ (F % 8) = ((c / 2 ^ (F % 8) : Nat) : Int) := by simp
      have hqle : c / 2 ^ (F % 8) ≤ c := Nat.div_le_self _ _
      have h2k : 2 ^ k ≤ 2 ^ 8 := Nat.pow_le_pow_right (by decide) (by omega)
      have h2p := Nat.two_pow_pos k
      have hw1 : IntKind.u64.wrap ((2 : Int) ^ k) = ((2 ^ k : Nat) : Int) := by
        show ((2 : Int) ^ k) % 18446744073709551616 = _
        rw [show (2 : Int) ^ k = ((2 ^ k : Nat) : Int) from by simp]; omega
      have hw2 : IntKind.u64.wrap (((2 ^ k : Nat) : Int) - 1) = ((2 ^ k : Nat) : Int) - 1 := by
        show (((2 ^ k : Nat) : Int) - 1) % 18446744073709551616 = _
        omega
      have hw3 := Bits.and_mask (c / 2 ^ (F % 8)) k (by omega) (by omega)
      rw [hbb] at hw3
      have hA : V / 2 ^ fr % 2 ^ g < 2 ^ g := Nat.mod_lt _ (Nat.two_pow_pos g)
      have hB : V / 2 ^ fr % 2 ^ (g + k) < 2 ^ (g + k) := Nat.mod_lt _ (Nat.two_pow_pos _)
      have htk := Bits.take_bits (V / 2 ^ fr) g k
      rw [Nat.div_div_eq_div_mul, ← Nat.pow_add, ← hF] at htk
      have h64 : 2 ^ (g + k) ≤ 2 ^ 64 := Nat.pow_le_pow_right (by decide) (by omega)
      have hw5 : IntKind.u64.wrap (((V / 2 ^ F % 2 ^ k : Nat) : Int) * 2 ^ g) = ((V / 2 ^ F % 2 ^ k * 2 ^ g : Nat) : Int) := by
        show (((V / 2 ^ F % 2 ^ k : Nat) : Int) * 2 ^ g) % 18446744073709551616 = _
        rw [show ((V / 2 ^ F % 2 ^ k : Nat) : Int) * (2 : Int) ^ g = ((V / 2 ^ F % 2 ^ k * 2 ^ g : Nat) : Int) from by simp]; omega
      have hw6 := Bits.or_u64s (V / 2 ^ fr % 2 ^ g) (V / 2 ^ F % 2 ^ k) g hA (by omega)
      rw [← htk] at hw6
      have HG := hid (Eq.refl (V / 2 ^ fr % 2 ^ (g + k)))
      obtain ⟨z, hze⟩ : ∃ z, z = V / 2 ^ fr % 2 ^ (g + k) := ⟨_, rfl⟩
      rw [← hze] at hw6 htk
      have HZ := hid hze
      obtain ⟨y, hye⟩ : ∃ y, y = V / 2 ^ F % 2 ^ k * 2 ^ g := ⟨_, rfl⟩
      rw [← hye] at hw5 hw6
      generalize V / 2 ^ F % 2 ^ k = x at *
      generalize V / 2 ^ fr % 2 ^ g = a at *
      obtain ⟨K2, hK2⟩ : ∃ K2 : Int, K2 = ((2 ^ k : Nat) : Int) := ⟨_, rfl⟩
      rw [← hK2] at hw1 hw2 hw3
      obtain ⟨b, hb⟩ : ∃ b, b = c / 2 ^ (F % 8) := ⟨_, rfl⟩
      rw [← hb] at hq1 hw3
      have hbI : (b : Int) ≤ 255 := by omega
      have hcI : (c : Int) ≤ 255 := by omega
      have hkI1 : (1 : Int) ≤ (k : Int) := by omega
      have hkI9 : (k : Int) ≤ 8 := by omega
      have hK1 : (1 : Int) ≤ K2 := by omega
      have hgI : (g : Int) < 64 := by omega
      have hzI : (z : Int) ≤ 18446744073709551615 := by omega
      have HF := hid hF
      have hF0 : (0 : Int) ≤ (F : Int) / 8 := by omega
      have hF1 : (F : Int) / 8 < (s.size : Int) := by omega
      have hF2 : (0 : Int) ≤ (F : Int) % 8 := by omega
      have hF3 : (F : Int) % 8 ≤ 7 := by omega
      clear hF hFl hcv hc8 hbb hqle h2k h2p hA hB htk h64 hze hye hK2 hb HG hk8 hk1
      go_wp2
      go_round
      case rel => exact ⟨g + k, hkg, by go_num, by rw [HF.out]; go_num, by rw [← HZ.out]⟩
      case measure => simp [intOf]; omega
    · obtain rfl : g = wd := by omega
      obtain ⟨z, hze⟩ : ∃ z, z = V / 2 ^ fr % 2 ^ g := ⟨_, rfl⟩
      rw [← hze]
      have HZ := hid hze
      clear hze
      go_wp2
      go_returns
      exact ⟨ret_int (by rw [HZ.out]; simp), rfl⟩
end Go.Proofs.YthgnipangcmanaaGreat
end
section
namespace Hy.Bits
open Go
theorem end_zero (V e n : Nat) (hV : V < 256 ^ n) (hn : n = (e + 7) / 8) (h0 : e % 8 = 0) : V < 2 ^ e := by
  rw [show (2 : Nat) ^ e = 256 ^ n from by rw [p256]; congr 1; omega]; exact hV
theorem end_byte (V e n : Nat) (hV : V < 256 ^ n) (hn : n = (e + 7) / 8) (h0 : e % 8 ≠ 0) : V / 256 ^ (e / 8) % 256 / 2 ^ (e % 8) = 0 ↔ V < 2 ^ e := by
  rw [top_byte V e n hV (by omega), p256, Nat.div_div_eq_div_mul, ← Nat.pow_add, Nat.div_add_mod, Nat.div_eq_zero_iff]
  have := Nat.two_pow_pos e
  omega
theorem chk_range {s : List UInt8} {many w : Int} (h : ¬ (0 ≤ w ∧ w ≤ 64) ∨ many < 0) : chk s many w = 3 := by unfold chk; rw [if_pos h]
theorem chk_many {s : List UInt8} {many w : Int} (h : ¬ (¬ (0 ≤ w ∧ w ≤ 64) ∨ many < 0)) (h2 : 64 < many) : chk s many w = 2 := by unfold chk; rw [if_neg h, if_pos h2]
theorem chk_form {s : List UInt8} {many w : Nat} (h1 : w ≤ 64) (h2 : many ≤ 64) (h : s.length ≠ size many w) : chk s many w = 1 := by
  unfold chk; rw [if_neg (by omega), if_neg (by omega), if_pos (by simpa using h)]
theorem chk_rest {s : List UInt8} {many w : Nat} (h1 : w ≤ 64) (h2 : many ≤ 64) (h : ¬ le s < 2 ^ (many * w)) : chk s many w = 1 := by
  unfold chk; rw [if_neg (by omega), if_neg (by omega)]
  split
  · rfl
  · rw [if_neg (by simpa using h)]
end Hy.Bits
namespace Go.Proofs.YthgnipangcmanaaGreat
open Go.RowKit Hy
set_option maxHeartbeats 1000000 in
theorem check_any (s : ByteArray) (many wd : Int) (w : World) :
    Calls Tryz.prog 152 #[.string s, .int .i64 many, .int .i64 wd] w fun e w' => e = .returned (.int .i64 (Bits.chk s.data.toList many wd)) ∧ w = w' := by
  have C42 := fun wx : World => hid (wide_any wd wx)
  by_cases h1 : 0 ≤ wd ∧ wd ≤ 64
  · rw [decide_eq_true h1] at C42
    by_cases h2 : many < 0
    · rw [Bits.chk_range (.inr h2)]
      clear h1
      go_enter Tryz.func152, Tryz.ntmps152
      go_wp2_with (go_at_call 67; refine (C42 _).out.mono ?_; rintro e w2 ⟨rfl, rfl⟩)
      go_returns
      exact ⟨rfl, rfl⟩
    · by_cases h3 : 64 < many
      · rw [Bits.chk_many (fun h => h.elim (fun h => h h1) h2) h3]
        clear h1
        go_enter Tryz.func152, Tryz.ntmps152
        go_wp2_with (go_at_call 67; refine (C42 _).out.mono ?_; rintro e w2 ⟨rfl, rfl⟩)
        go_returns
        exact ⟨rfl, rfl⟩
      · obtain ⟨m, rfl⟩ := Int.eq_ofNat_of_zero_le (show 0 ≤ many by omega)
        obtain ⟨k, rfl⟩ := Int.eq_ofNat_of_zero_le h1.1
        have hm : m ≤ 64 := by omega
        have hk : k ≤ 64 := by omega
        have hmI : (m : Int) ≤ 64 := by omega
        have CS := fun wx : World => hid (size_any m k wx (by omega) (by omega))
        have hlen : s.data.toList.length = s.size := Array.length_toList
        have HF1 := hid (@Bits.chk_form s.data.toList m k hk hm)
        have HF2 := hid (@Bits.chk_rest s.data.toList m k hk hm)
        have HF3 := hid (@Bits.chk_of s.data.toList m k hk hm)
        have hV := Bits.le_lt s.data.toList
        have hmk : m * k ≤ 64 * 64 := Nat.mul_le_mul hm hk
        have hmul : (m : Int) * (k : Int) = ((m * k : Nat) : Int) := by simp
        have hsz : Bits.size m k = (m * k + 7) / 8 := rfl
        have hgb := fun h => Bits.le_get s.data.toList (m * k / 8) h
        rw [hlen] at HF1 HF3 hV
        obtain ⟨e, he⟩ : ∃ e, e = m * k := ⟨_, rfl⟩
        rw [← he] at HF2 HF3 hmk hmul hsz hgb
        have heI : (e : Int) ≤ 4096 := by omega
        obtain ⟨Q, hQ⟩ : ∃ Q, Q = Bits.size m k := ⟨_, rfl⟩
        rw [← hQ] at HF1 HF3 CS hsz
        have hQI : (Q : Int) ≤ 1000 := by omega
        clear h2 h3 h1 hQ
        have hmm := hid hmul
        by_cases h4 : s.size = Q
        · have h4I : ((s.size : Int) != (Q : Int)) = false := by rw [bne_eq_false_iff_eq]; omega
          have h4J : ((s.size : Int) == (Q : Int)) = true := by rw [beq_iff_eq]; omega
          by_cases h5 : e % 8 = 0
          · have hlt := Bits.end_zero _ e _ hV (by omega) h5
            have HC := hid (HF3.out (by omega) hlt)
            have h5I : ((e : Int) % 8 != 0) = false := by rw [bne_eq_false_iff_eq]; omega
            have h5J : ((e : Int) % 8 == 0) = true := by rw [beq_iff_eq]; omega
            clear hV hlt hgb hsz h5 he hm hk hmk hlen h4
            go_enter Tryz.func152, Tryz.ntmps152
            go_wp2_with (first
              | (go_at_call 67; refine (C42 _).out.mono ?_; rintro e w2 ⟨rfl, rfl⟩)
              | (go_at_call 177; refine (CS _).out.mono ?_; rintro e w3 ⟨rfl, rfl⟩))
            go_returns
            exact ⟨by rw [HC.out]; rfl, rfl⟩
          · have hi : e / 8 < s.size := by omega
            have hil : e / 8 < s.data.toList.length := by rw [hlen]; exact hi
            have hix := fun wx : World => run_ix (P := Tryz.prog) (w := wx) Tryz.underlying9 s .i64 (e / 8) s.data.toList[e / 8] (List.getElem?_eq_getElem hil)
            simp only [Int.natCast_ediv, Int.cast_ofNat_Int] at hix
            have hcv := hgb hil
            have hiff := Bits.end_byte _ e _ hV (by omega) h5
            rw [← hcv] at hiff
            have hc8 := s.data.toList[e / 8].toNat_lt
            generalize s.data.toList[e / 8].toNat = c at *
            have hq1 : (c : Int) / 2 ^ (e % 8) = ((c / 2 ^ (e % 8) : Nat) : Int) := by simp
            have hqle : c / 2 ^ (e % 8) ≤ c := Nat.div_le_self _ _
            have h5I : ((e : Int) % 8 != 0) = true := by rw [bne_iff_ne]; omega
            have h5J : ((e : Int) % 8 == 0) = false := by rw [beq_eq_false_iff_ne]; omega
            generalize c / 2 ^ (e % 8) = b at *
            have hbI : (b : Int) ≤ 255 := by omega
            have hcI : (c : Int) ≤ 255 := by omega
            have hF0 : (0 : Int) ≤ (e : Int) / 8 := by omega
            have hF1 : (e : Int) / 8 < (s.size : Int) := by omega
            have hF2 : (0 : Int) ≤ (e : Int) % 8 := by omega
            have hF3 : (e : Int) % 8 ≤ 7 := by omega
            by_cases h6 : b = 0
            · have HC := hid (HF3.out (by omega) (hiff.1 h6))
              subst h6
              clear hV hgb hsz h5 he hm hk hmk hlen h4 hiff hcv hil hi hc8 hqle
              go_enter Tryz.func152, Tryz.ntmps152
              go_wp2_with (first
                | (go_at_call 67; refine (C42 _).out.mono ?_; rintro e w2 ⟨rfl, rfl⟩)
                | (go_at_call 177; refine (CS _).out.mono ?_; rintro e w3 ⟨rfl, rfl⟩))
              go_returns
              exact ⟨by rw [HC.out]; rfl, rfl⟩
            · have HC := hid (HF2.out fun h => h6 (hiff.2 h))
              have h7 : ((b : Int) != 0) = true := by rw [bne_iff_ne]; omega
              have h8 : ((b : Int) == 0) = false := by rw [beq_eq_false_iff_ne]; omega
              clear hV hgb hsz h5 he hm hk hmk hlen h4 hiff hcv hil hi hc8 hqle
              go_enter Tryz.func152, Tryz.ntmps152
              go_wp2_with (first
                | (go_at_call 67; refine (C42 _).out.mono ?_; rintro e w2 ⟨rfl, rfl⟩)
                | (go_at_call 177; refine (CS _).out.mono ?_; rintro e w3 ⟨rfl, rfl⟩))
              go_returns
              exact ⟨by rw [HC.out]; rfl, rfl⟩
        · have HC := hid (HF1.out h4)
          have h4I : ((s.size : Int) != (Q : Int)) = true := by rw [bne_iff_ne]; omega
          have h4J : ((s.size : Int) == (Q : Int)) = false := by rw [beq_eq_false_iff_ne]; omega
          clear hV hgb hsz he hm hk hmk hlen h4
          go_enter Tryz.func152, Tryz.ntmps152
          go_wp2_with (first
            | (go_at_call 67; refine (C42 _).out.mono ?_; rintro e w2 ⟨rfl, rfl⟩)
            | (go_at_call 177; refine (CS _).out.mono ?_; rintro e w3 ⟨rfl, rfl⟩))
          go_returns
          exact ⟨by rw [HC.out]; rfl, rfl⟩
  · rw [decide_eq_false h1] at C42
    rw [Bits.chk_range (.inl h1)]
    clear h1
    go_enter Tryz.func152, Tryz.ntmps152
    go_wp2_with (go_at_call 67; refine (C42 _).out.mono ?_; rintro e w2 ⟨rfl, rfl⟩)
    go_returns
    exact ⟨rfl, rfl⟩
end Go.Proofs.YthgnipangcmanaaGreat
end
section
namespace Go.Proofs.YthgnipangcmanaaGreat
open Go.RowKit Hy
theorem size_bits (many w i : Nat) (hi : i < many) : i * w + w ≤ 8 * Bits.size many w := by
  have h1 : (i + 1) * w ≤ many * w := Nat.mul_le_mul_right _ hi
  rw [Nat.add_mul, Nat.one_mul] at h1
  unfold Bits.size
  generalize many * w = x at *
  omega
theorem size_le (many w : Nat) (h1 : many ≤ 64) (h2 : w ≤ 64) : Bits.size many w ≤ 512 := by
  have : many * w ≤ 64 * 64 := Nat.mul_le_mul h1 h2
  unfold Bits.size; omega
def NumsOwn (t : TypeId) (l : List Nat) (err : Nat) (w : World) (e : Ending) (w' : World) : Prop := ∃ v, e = .returned (.tuple #[v, .int .i64 err]) ∧ w'.ownsRow w.heap.size t 1 v l.length (u64s l) ∧ Ext w w'
theorem NumsOwn.out {t : TypeId} {l : List Nat} {err : Nat} {w w' : World} {e : Ending} (h : NumsOwn t l err w e w') : NumsOut l err w e w' := by
  obtain ⟨v, rfl, hown, hx⟩ := h
  obtain ⟨A, cap, rfl, hrd, _⟩ := Rd.owned hown
  exact ⟨A, cap, rfl, hrd, hx⟩
set_option maxHeartbeats 800000 in
theorem unpack_own (s : ByteArray) (many wd : Int) (w : World) :
    Calls Tryz.prog 113 #[.string s, .int .i64 many, .int .i64 wd] w (NumsOwn 34 (Bits.up s.data.toList many wd) (Bits.chk s.data.toList many wd) w) := by
  have C := fun wx : World => hid (check_any s many wd wx)
  obtain ⟨er, he⟩ : ∃ er, er = Bits.chk s.data.toList many wd := ⟨_, rfl⟩
  rw [← he] at C ⊢
  by_cases h0 : er = 0
  · subst h0
    obtain ⟨c1, c2, c3, c4, c5, c6⟩ := Bits.chk_ok he.symm
    have HU := hid (Bits.up_ok _ _ _ he.symm)
    obtain ⟨m, rfl⟩ := Int.eq_ofNat_of_zero_le c3
    obtain ⟨k, rfl⟩ := Int.eq_ofNat_of_zero_le c1
    rw [Int.toNat_natCast, Int.toNat_natCast] at HU c5 c6
    rw [Array.length_toList] at c5
    have c5' : s.size = Bits.size m k := c5
    have hmI : (m : Int) ≤ 64 := c4
    have hkI : (k : Int) ≤ 64 := c2
    have hsz := size_le m k (by omega) (by omega)
    have HB := hid (fun i (hi : i < m) => size_bits m k i hi)
    have CP := hid (fun (i : Nat) (hi : i < m) (wx : World) => pull_any s (i * k) k wx (by omega) (by have := HB.out i hi; omega) (by omega))
    have HSN := hid (fun i => Bits.unp_snoc s.data.toList i k)
    obtain ⟨L, hL⟩ : ∃ L, L = Bits.up s.data.toList (m : Int) (k : Int) := ⟨_, rfl⟩
    rw [← hL] at HU ⊢
    have HLen := hid (fun i => Bits.unp_len s.data.toList i k)
    clear he c1 c2 c3 c4 c5 c6 c5' hsz hL
    go_enter Tryz.func113, Tryz.ntmps113
    go_wp2_with (go_at_call 152; refine (C _).out.mono ?_; rintro e w2 ⟨rfl, rfl⟩)
    go_loopw [9, 10, 19] (fun v _ c wr => ∃ i : Nat, i ≤ m ∧ c = .int .i64 i ∧ wr.ownsRow w.heap.size 34 1 v (Bits.unp s.data.toList i k).length (u64s (Bits.unp s.data.toList i k)) ∧ Ext w wr) (fun _ _ c _ => m - (intOf c).toNat)
    case atStart => exact ⟨0, Nat.zero_le _, rfl, by rw [Bits.unp_eq]; exact World.ownsRow_nil _ _ _ _, ext_refl _⟩
    case round =>
      obtain ⟨i, hi, rfl, hown, X⟩ := hrel
      have HO := hid hown
      clear hown
      by_cases hlt : i < m
      · have HS := hid (HSN.out i)
        have C1 := fun wx : World => hid (CP.out i hlt wx)
        have hik : i * k ≤ 64 * 64 := Nat.mul_le_mul (by omega) (by omega)
        have hmul : (i : Int) * (k : Int) = ((i * k : Nat) : Int) := by simp
        have hx : Bits.le s.data.toList / 2 ^ (i * k) % 2 ^ k < 18446744073709551616 := by
          have h1 : Bits.le s.data.toList / 2 ^ (i * k) % 2 ^ k < 2 ^ k := Nat.mod_lt _ (Nat.two_pow_pos k)
          have h2 : 2 ^ k ≤ 2 ^ 64 := Nat.pow_le_pow_right (by decide) (by omega)
          omega
        have hxI : ((Bits.le s.data.toList / 2 ^ (i * k) % 2 ^ k : Nat) : Int) ≤ 18446744073709551615 := by omega
        have hl := HLen.out i
        generalize Bits.le s.data.toList / 2 ^ (i * k) % 2 ^ k = x at *
        generalize Bits.unp s.data.toList i k = L1 at *
        have hb : L1.length ≤ 64 := by omega
        generalize i * k = ik at *
        have hikI : (ik : Int) ≤ 4096 := by omega
        clear hx hl hik CP
        go_wp2_with (first
          | (go_at_call 153; refine (C1 _).out.mono ?_; rintro e w2 ⟨rfl, rfl⟩)
          | (at_builtin; refine wpList_app rfl (.tmp 22) (.tmp 29) rowU64 rfl _ L1.length _ rfl (HO.out.alloc _) _ 1 (u64s [x]) rfl (Src.rd Tryz.underlying58 _ 1 1 _ rfl (rd_lit rfl rfl) (u64s_one _) (fun h => by cases h)) (by unfold maxLen; omega) (by omega) (by have := X.size; simp; omega) ?_; intro v' w3 hown hgrow hat hbel))
        go_roundw
        case rel => exact ⟨i + 1, by omega, by go_num, by rw [HS.out, u64s_app, List.length_append]; exact hown, (X.new _).trans hbel⟩
        case measure => simp [intOf]; omega
      · obtain rfl : i = m := by omega
        obtain ⟨A, cap, rfl, hrd, _⟩ := Rd.owned HO.out
        clear hrd
        go_wp2
        go_returns
        exact ⟨_, rfl, by rw [HU.out]; exact HO.out, X⟩
  · have HU := hid (Bits.up_bad _ _ _ (show Bits.chk s.data.toList many wd ≠ 0 from fun h => h0 (he.trans h)))
    obtain ⟨L, hL⟩ : ∃ L, L = Bits.up s.data.toList many wd := ⟨_, rfl⟩
    rw [← hL] at HU ⊢
    have h3 : ((er : Int) != 0) = true := by rw [bne_iff_ne]; omega
    have h4 : ((er : Int) == 0) = false := by rw [beq_eq_false_iff_ne]; omega
    clear he h0 hL
    go_enter Tryz.func113, Tryz.ntmps113
    go_wp2_with (go_at_call 152; refine (C _).out.mono ?_; rintro e w2 ⟨rfl, rfl⟩)
    go_returns
    exact ⟨.slice none 0 0, rfl, by rw [HU.out]; exact World.ownsRow_nil _ _ _ _, ext_refl _⟩
theorem unpack_any (s : ByteArray) (many wd : Int) (w : World) :
    Calls Tryz.prog 113 #[.string s, .int .i64 many, .int .i64 wd] w (NumsOut (Bits.up s.data.toList many wd) (Bits.chk s.data.toList many wd) w) :=
  Calls.mono (unpack_own s many wd w) fun _ _ h => h.out
end Go.Proofs.YthgnipangcmanaaGreat
end
section
namespace Go.Proofs.YthgnipangcmanaaGreat
open Go.RowKit Hy
set_option maxHeartbeats 400000 in
theorem bitOf_any (l : List Nat) (A : Option Addr) (n cap wd b : Nat) (w : World) (hn : l.length = n) (hr : Rd w A (u64s l)) (hl : ∀ x ∈ l, x < 2 ^ wd) (hnl : n ≤ 2000000) (hwd : wd ≤ 64) (hb : b < n * wd) :
    Calls Tryz.prog 61 #[.slice A n cap, .int .i64 wd, .int .i64 b] w fun e w' => e = .returned (.int .i64 (Bits.num wd l / 2 ^ b % 2 : Nat)) ∧ w = w' := by
  have hw0 : 0 < wd := by rcases Nat.eq_zero_or_pos wd with rfl | h; (· simp at hb); exact h
  have hi : b / wd < n := by rw [Nat.div_lt_iff_lt_mul hw0]; exact hb
  have hka : b / wd < l.length := by rw [hn]; exact hi
  have hbit := Bits.num_bit wd l hl b (by rw [hn]; exact hb) hka
  obtain ⟨b1, o1, e1, l1, c1⟩ := hr.nums (b / wd) hka
  subst e1
  have d1 := c1 (b / wd) hka
  have h64 : 2 ^ wd ≤ 2 ^ 64 := Nat.pow_le_pow_right (by decide) hwd
  have hx : l[b / wd] < 18446744073709551616 := Nat.lt_of_lt_of_le (hl _ (List.getElem_mem hka)) h64
  generalize l[b / wd] = x at *
  obtain ⟨z, hz⟩ : ∃ z, z = Bits.num wd l / 2 ^ b % 2 := ⟨_, rfl⟩
  rw [← hz] at hbit ⊢
  have HB := hid hbit
  have hr1 : b % wd < wd := Nat.mod_lt _ hw0
  have hmI : (b : Int) % (wd : Int) = ((b % wd : Nat) : Int) := by simp
  have hdI : (b : Int) / (wd : Int) = ((b / wd : Nat) : Int) := by simp
  have hbI : (b : Int) ≤ 128000000 := by have : n * wd ≤ 2000000 * 64 := Nat.mul_le_mul hnl hwd; omega
  have hwI : (1 : Int) ≤ (wd : Int) := by omega
  have hxI : (x : Int) ≤ 18446744073709551615 := by omega
  have hiI : ((b / wd : Nat) : Int) < (n : Int) := by omega
  have hrI : ((b % wd : Nat) : Int) < 64 := by omega
  generalize b % wd = r at *
  generalize b / wd = i at *
  clear hl hr hb hka hbit hx c1 h64 hz hi hr1 hn
  go_enter Tryz.func61, Tryz.ntmps61
  go_wp2
  go_loop [7, 8] (fun a c => ∃ j : Nat, j ≤ r ∧ c = .int .i64 j ∧ a = .int .u64 (x / 2 ^ j : Nat)) (fun _ c => r - (intOf c).toNat)
  case atStart => exact ⟨0, Nat.zero_le _, rfl, by simp⟩
  case round =>
    obtain ⟨j, hj, rfl, rfl⟩ := hrel
    by_cases hlt : j < r
    · have HS := hid (show x / 2 ^ (j + 1) = x / 2 ^ j / 2 by rw [Nat.div_div_eq_div_mul, Nat.pow_succ])
      have hm : (x / 2 ^ j : Nat) ≤ x := Nat.div_le_self _ _
      generalize x / 2 ^ j = m at *
      have hmI2 : (m : Int) ≤ 18446744073709551615 := by omega
      clear hm
      go_wp2
      go_round
      case rel => exact ⟨j + 1, by omega, by go_num, by rw [HS.out]; go_num⟩
      case measure => simp [intOf]; omega
    · obtain rfl : j = r := by omega
      have hm : (x / 2 ^ j : Nat) ≤ x := Nat.div_le_self _ _
      generalize x / 2 ^ j = m at *
      have hmI2 : (m : Int) ≤ 18446744073709551615 := by omega
      clear hm
      go_wp2
      go_returns
      exact ⟨ret_int (by rw [← HB.out]; simp), rfl⟩
set_option maxHeartbeats 800000 in
theorem packedOf_any (l : List Nat) (A : Option Addr) (n cap wd : Nat) (w : World) (hn : l.length = n) (hr : Rd w A (u64s l)) (hl : ∀ x ∈ l, x < 2 ^ wd) (hnl : n ≤ 2000000) (hwd : wd ≤ 64) :
    Calls Tryz.prog 34 #[.slice A n cap, .int .i64 wd] w fun e w' => e = .returned (.string ⟨(Bits.packed l wd).toArray⟩) ∧ Ext w w' := by
  have hV := Bits.num_lt wd l hl
  have HC := hid (fun (b : Nat) (hb : b < n * wd) (wx : World) (hx : Ext w wx) => bitOf_any l A n cap wd b wx hn (hr.keep hx) hl hnl hwd hb)
  have hW := Bits.packed_eq l wd
  rw [hn] at hV hW
  have hall : n * wd ≤ 2000000 * 64 := Nat.mul_le_mul hnl hwd
  have hmul : (n : Int) * (wd : Int) = ((n * wd : Nat) : Int) := by simp
  have hsz : Bits.size n wd = (n * wd + 7) / 8 := rfl
  rw [hsz] at hW
  generalize n * wd = all at *
  generalize Bits.num wd l = V at *
  have HW := hid hW
  have HV := hid hV
  have haI : (all : Int) ≤ 128000000 := by omega
  clear hr hl hn hV hW hall hsz
  go_enter Tryz.func34, Tryz.ntmps34
  go_wp2
  go_loopw [5, 7, 8, 9] (fun v c _ _ wr => ∃ j : Nat, j ≤ (all + 7) / 8 ∧ c = .int .i64 (8 * j : Nat) ∧ v = .string ⟨(Bits.leb V j).toArray⟩ ∧ Ext w wr) (fun _ c _ _ _ => 200000000 - (intOf c).toNat)
  case atStart => exact ⟨0, Nat.zero_le _, rfl, rfl, ext_refl _⟩
  case round =>
    obtain ⟨j, hj, rfl, rfl, X⟩ := hrel
    obtain ⟨S, hS⟩ : ∃ S : ByteArray, S = ⟨(Bits.leb V j).toArray⟩ := ⟨_, rfl⟩
    have hSz : S.size = j := by rw [hS, str_size, Bits.leb_len]
    rw [← hS]
    have HS := hid hS
    clear hS
    have hjI : (j : Int) ≤ 16000001 := by omega
    obtain ⟨F, hF⟩ : ∃ F, F = 8 * j := ⟨_, rfl⟩
    rw [← hF]
    by_cases hlt : F < all
    · have HF := hid hF
      have hFI : (F : Int) ≤ 127999999 := by omega
      clear hF
      go_wp2
      go_loop [8, 9] (fun b k => ∃ i : Nat, i ≤ 8 ∧ k = .int .i64 ((i : Int) - 1) ∧ b = .int .i64 (V / 2 ^ (F + i) % 2 ^ (8 - i) : Nat)) (fun _ k => (intOf k + 1).toNat)
      case atStart => exact ⟨8, Nat.le_refl _, rfl, by rw [Nat.sub_self, Nat.pow_zero, Nat.mod_one]; rfl⟩
      case round =>
        obtain ⟨i, hi, rfl, rfl⟩ := hrel
        by_cases hi0 : 1 ≤ i
        · obtain ⟨q, rfl⟩ : ∃ q, i = q + 1 := ⟨i - 1, by omega⟩
          have hst := Bits.half_step V (F + q) (7 - q)
          rw [show 7 - q + 1 = 8 - q by omega, show F + q + 1 = F + (q + 1) by omega, show 7 - q = 8 - (q + 1) by omega] at hst
          have HST := hid hst
          have hlt2 : V / 2 ^ (F + (q + 1)) % 2 ^ (8 - (q + 1)) < 2 ^ (8 - (q + 1)) := Nat.mod_lt _ (Nat.two_pow_pos _)
          have h27 : 2 ^ (8 - (q + 1)) ≤ 2 ^ 7 := Nat.pow_le_pow_right (by decide) (by omega)
          have hqI : (q : Int) ≤ 7 := by omega
          have hq0 : (0 : Int) ≤ (q : Int) := by omega
          have hbz : ¬ (F + q < all) → V / 2 ^ (F + q) % 2 = 0 := fun h => by
            rw [Nat.div_eq_of_lt]
            exact Nat.lt_of_lt_of_le HV.out (Nat.pow_le_pow_right (by decide) (by omega))
          have hm2 : V / 2 ^ (F + q) % 2 < 2 := Nat.mod_lt _ (by decide)
          have CC := fun (h : F + q < all) (wx : World) (hx : Ext w wx) => hid (HC.out (F + q) h wx hx)
          generalize V / 2 ^ (F + (q + 1)) % 2 ^ (8 - (q + 1)) = p at *
          generalize V / 2 ^ (F + q) % 2 = z at *
          have hpI : (p : Int) ≤ 127 := by omega
          have hzI : (z : Int) ≤ 1 := by omega
          clear hst hlt2 h27 hm2
          by_cases hin : F + q < all
          · have C1 := CC hin
            have hinI : (F : Int) + (q : Int) < (all : Int) := by omega
            clear CC hbz hin
            go_wp2_with (go_at_call 61; refine (C1 _ X).out.mono ?_; rintro e w2 ⟨rfl, rfl⟩)
            go_round
            case rel => exact ⟨q, by omega, by go_num, by rw [HST.out]; go_num⟩
            case measure => simp [intOf]
          · have hz0 := hbz hin
            have hinI : ¬ (F : Int) + (q : Int) < (all : Int) := by omega
            subst hz0
            clear CC hbz hin
            go_wp2
            go_round
            case rel => exact ⟨q, by omega, by go_num, by rw [HST.out]; go_num⟩
            case measure => simp [intOf]
        · obtain rfl : i = 0 := by omega
          have hb : V / 2 ^ F % 256 < 256 := Nat.mod_lt _ (by decide)
          have HN := hid (show Bits.leb V (j + 1) = Bits.leb V j ++ [UInt8.ofNat (V / 2 ^ F % 256)] by rw [Bits.leb_snoc, Bits.p256, HF.out, ofNat_mod])
          rw [Nat.add_zero, Nat.sub_zero, show (2 : Nat) ^ 8 = 256 from rfl]
          generalize V / 2 ^ F % 256 = z at *
          have hzI : (z : Int) ≤ 255 := by omega
          clear hb
          obtain ⟨T, hT⟩ : ∃ T : ByteArray, T = ⟨#[UInt8.ofNat z]⟩ := ⟨_, rfl⟩
          have hTz : T.size = 1 := by rw [hT]; rfl
          have C1 : ∀ wx : World, Hid (Calls Tryz.prog 32 #[.int .i64 z] wx fun e w' => e = .returned (.string T) ∧ Ext wx w') := fun wx => by rw [hT]; exact hid (oneByte_any z wx (by omega) (by omega))
          have HTT := hid hT
          clear hT
          go_wp2_with (go_at_call 32; refine (C1 _).out.mono ?_; rintro e w2 ⟨rfl, b2⟩)
          go_roundw
          case rel => exact ⟨j + 1, by have := HF.out; omega, by rw [show 8 * (j + 1) = F + 8 by have := HF.out; omega]; go_num, by rw [HN.out, HS.out, HTT.out]; exact congrArg Value.string (str_app _ [UInt8.ofNat z]), X.then b2⟩
          case measure => simp [intOf]; omega
    · have e1 : j = (all + 7) / 8 := by omega
      have HE := hid e1
      have hltI : ¬ (F : Int) < (all : Int) := by omega
      clear e1 hF hlt
      go_wp2
      go_returns
      exact ⟨by rw [HW.out, ← HE.out, ← HS.out]; rfl, X⟩
end Go.Proofs.YthgnipangcmanaaGreat
end
section
namespace Hy
open Go Go.RowKit
def bls (l : List Bool) : List Value := l.map Value.bool
theorem bls_len (l : List Bool) : (bls l).length = l.length := List.length_map _
theorem bls_get (l : List Bool) (k : Nat) (h : k < l.length) : (bls l)[k]? = some (.bool l[k]) := by unfold bls; simp [h]
theorem Rd.bool {w : World} {A : Option Addr} {l : List Bool} (h : Rd w A (bls l)) (hp : 0 < l.length) :
    ∃ b o, A = some ⟨b, o, none⟩ ∧ b < w.heap.size ∧ ∀ k (hk : k < l.length), w.cell? ⟨b, o + k, none⟩ = some (.bool l[k]) := by
  obtain ⟨b, o, e, hb, hc⟩ := h (by rw [bls_len]; exact hp)
  exact ⟨b, o, e, hb, fun k hk => hc k _ (bls_get l k hk)⟩
end Hy
end
section
namespace Hy
open Go
theorem Blk.c3 {w : World} {g : Nat} {t : TypeId} {a b c : Value} (B : Blk w g t #[a, b, c]) : w.cell? ⟨g, 0, none⟩ = some a ∧ w.cell? ⟨g, 1, none⟩ = some b ∧ w.cell? ⟨g, 2, none⟩ = some c := ⟨B.cell 0, B.cell 1, B.cell 2⟩
end Hy
end
section
namespace Go.Proofs.YthgnipangcmanaaGreat
open Go.RowKit Hy
set_option maxHeartbeats 400000 in
theorem pack_any (l : List Nat) (A : Option Addr) (n cap : Nat) (wd : Int) (w : World) (hn : l.length = n) (hr : Rd w A (u64s l)) (hl : ∀ x ∈ l, x < 18446744073709551616) (hnl : n ≤ 9223372036854775806) :
    Calls Tryz.prog 44 #[.slice A n cap, .int .i64 wd] w fun e w' => e = .returned (.tuple #[.string ⟨(Bits.pk l wd).1.toArray⟩, .int .i64 (Bits.pk l wd).2]) ∧ Ext w w' := by
  have C42 := fun wx : World => hid (wide_any wd wx)
  have C30 := fun wx : World => fun hx : Ext w wx => hid (width_any l A n cap wx hn (hr.keep hx) hl hnl)
  have hw64 := Bits.width_le64 l hl
  have hiff := Bits.width_le_iff l
  have C43 := hid (fun (k : Nat) (wx : World) (hx : Ext w wx) => braw_any l A n cap k wx hn (hr.keep hx))
  by_cases h1 : 0 ≤ wd ∧ wd ≤ 64
  · rw [decide_eq_true h1] at C42
    by_cases h2 : 64 < n
    · have HP := hid (show Bits.pk l wd = ([], 2) by unfold Bits.pk; rw [if_neg (fun h => h h1), if_pos (by omega)])
      have h2I : (64 : Int) < (n : Int) := by omega
      clear hr hl hn h2 hiff hw64 h1
      go_enter Tryz.func44, Tryz.ntmps44
      go_wp2_with (go_at_call 67; refine (C42 _).out.mono ?_; rintro e w2 ⟨rfl, rfl⟩)
      go_returns
      exact ⟨by rw [HP.out]; rfl, ext_refl _⟩
    · have h2I : ¬ (64 : Int) < (n : Int) := by omega
      obtain ⟨k, rfl⟩ := Int.eq_ofNat_of_zero_le h1.1
      by_cases h3 : (k : Int) < (Bits.width l : Int)
      · have HP := hid (show Bits.pk l (k : Int) = ([], 8) by unfold Bits.pk; rw [if_neg (fun h => h h1), if_neg (by omega), if_pos h3])
        obtain ⟨q, hq⟩ : ∃ q, q = Bits.width l := ⟨_, rfl⟩
        rw [← hq] at h3 C30
        clear hr hl hn h2 hiff hw64 hq h1
        go_enter Tryz.func44, Tryz.ntmps44
        go_wp2_with (first
          | (go_at_call 67; refine (C42 _).out.mono ?_; rintro e w2 ⟨rfl, rfl⟩)
          | (go_at_call 68; refine (C30 _ (ext_refl _)).out.mono ?_; rintro e w3 ⟨rfl, rfl⟩))
        go_returns
        exact ⟨by rw [HP.out]; rfl, ext_refl _⟩
      · have HP := hid (show Bits.pk l (k : Int) = (Bits.packed l k, 0) by unfold Bits.pk; rw [if_neg (fun h => h h1), if_neg (by omega), if_neg h3, Int.toNat_natCast])
        have CR := hid (C43.out k w (ext_refl _) ((hiff k hl (by omega)).1 (by omega)) (by omega) (by omega))
        obtain ⟨q, hq⟩ : ∃ q, q = Bits.width l := ⟨_, rfl⟩
        rw [← hq] at h3 C30
        clear hr hl hn h2 hiff hw64 hq h1 C43
        obtain ⟨S, hS⟩ : ∃ S : ByteArray, S = ⟨(Bits.packed l k).toArray⟩ := ⟨_, rfl⟩
        rw [← hS] at CR
        have HS := hid hS
        clear hS
        go_enter Tryz.func44, Tryz.ntmps44
        go_wp2_with (first
          | (go_at_call 67; refine (C42 _).out.mono ?_; rintro e w2 ⟨rfl, rfl⟩)
          | (go_at_call 68; refine (C30 _ (ext_refl _)).out.mono ?_; rintro e w3 ⟨rfl, rfl⟩)
          | (go_at_call 69; refine CR.out.mono ?_; rintro e w4 ⟨rfl, b4⟩))
        go_returns
        exact ⟨by rw [HP.out, HS.out]; rfl, b4⟩
  · rw [decide_eq_false h1] at C42
    have HP := hid (show Bits.pk l wd = ([], 3) by unfold Bits.pk; rw [if_pos h1])
    clear hr hl hn hiff hw64 h1 C43
    go_enter Tryz.func44, Tryz.ntmps44
    go_wp2_with (go_at_call 67; refine (C42 _).out.mono ?_; rintro e w2 ⟨rfl, rfl⟩)
    go_returns
    exact ⟨by rw [HP.out]; rfl, ext_refl _⟩
end Go.Proofs.YthgnipangcmanaaGreat
end
