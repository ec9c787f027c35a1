/- How many ones a word has: plain law of the sum by halves. No program in sight. -/
import Derived.Test.YtikdmnedbfpkeaaDoorBase
namespace Hy.Pop
/-- ones among the k lowest bits -/
def pb : Nat → Nat → Nat
  | 0, _ => 0
  | k + 1, x => x % 2 + pb k (x / 2)
theorem pb_le : ∀ k x, pb k x ≤ k
  | 0, _ => Nat.le_refl _
  | k + 1, x => by have := pb_le k (x / 2); unfold pb; omega
theorem pb_zero : ∀ k, pb k 0 = 0
  | 0 => rfl
  | k + 1 => by unfold pb; rw [Nat.zero_div, pb_zero k]
theorem pb_split : ∀ (m k x : Nat), pb (m + k) x = pb m (x % 2 ^ m) + pb k (x / 2 ^ m)
  | 0, k, x => by simp [pb]
  | m + 1, k, x => by
    rw [show m + 1 + k = (m + k) + 1 by omega]
    show x % 2 + pb (m + k) (x / 2) = (x % 2 ^ (m + 1) % 2 + pb m (x % 2 ^ (m + 1) / 2)) + pb k (x / 2 ^ (m + 1))
    rw [pb_split m k (x / 2)]
    have e1 : x % 2 ^ (m + 1) % 2 = x % 2 := by
      rw [Nat.pow_succ, Nat.mod_mul_left_mod]
    have e2 : x % 2 ^ (m + 1) / 2 = x / 2 % 2 ^ m := by
      rw [show 2 ^ (m + 1) = 2 * 2 ^ m from by rw [Nat.pow_succ, Nat.mul_comm], Nat.mod_mul_right_div_self]
    have e3 : x / 2 / 2 ^ m = x / 2 ^ (m + 1) := by rw [Nat.div_div_eq_div_mul, Nat.pow_succ, Nat.mul_comm]
    rw [e1, e2, e3]
    omega
/-- a word of bits, the lowest first -/
def word : List Bool → Nat
  | [] => 0
  | b :: l => b.toNat + 2 * word l
theorem word_lt : ∀ l : List Bool, word l < 2 ^ l.length
  | [] => by simp [word]
  | b :: l => by
    have := word_lt l
    have hb : b.toNat ≤ 1 := by cases b <;> decide
    simp only [word, List.length_cons, Nat.pow_succ]; omega
theorem word_snoc : ∀ (l : List Bool) (b : Bool), word (l ++ [b]) = word l + b.toNat * 2 ^ l.length
  | [], b => by simp [word]
  | c :: l, b => by
    simp only [List.cons_append, word, word_snoc l b, List.length_cons, Nat.pow_succ]
    have : b.toNat * (2 ^ l.length * 2) = 2 * (b.toNat * 2 ^ l.length) := by rw [← Nat.mul_assoc, Nat.mul_comm]
    rw [this, Nat.mul_add]; omega
theorem pb_word : ∀ (l : List Bool) (k : Nat), l.length ≤ k → pb k (word l) = l.count true
  | [], k, _ => by simp [word, pb_zero]
  | b :: l, 0, h => by simp at h
  | b :: l, k + 1, h => by
    have e1 : word (b :: l) % 2 = b.toNat := by cases b <;> simp [word] <;> omega
    have e2 : word (b :: l) / 2 = word l := by cases b <;> simp [word] <;> omega
    unfold pb
    rw [e1, e2, pb_word l k (by simpa using h)]
    cases b <;> simp [Nat.add_comm]
/-- n bytes that are alike -/
def rep (c : Nat) : Nat → Nat
  | 0 => 0
  | n + 1 => c + 256 * rep c n
theorem and_cat (a b c d : Nat) (ha : a < 256) (hc : c < 256) : (a + 256 * b) &&& (c + 256 * d) = (a &&& c) + 256 * (b &&& d) := by
  have h1 : ((a + 256 * b) &&& (c + 256 * d)) % 2 ^ 8 = a &&& c := by
    rw [Nat.and_mod_two_pow, show (a + 256 * b) % 2 ^ 8 = a from by omega, show (c + 256 * d) % 2 ^ 8 = c from by omega]
  have h2 : ((a + 256 * b) &&& (c + 256 * d)) / 2 ^ 8 = b &&& d := by
    rw [← Nat.shiftRight_eq_div_pow, Nat.shiftRight_and_distrib, Nat.shiftRight_eq_div_pow, Nat.shiftRight_eq_div_pow, show (a + 256 * b) / 2 ^ 8 = b from by omega, show (c + 256 * d) / 2 ^ 8 = d from by omega]
  have := Nat.div_add_mod ((a + 256 * b) &&& (c + 256 * d)) (2 ^ 8)
  rw [h1, h2] at this
  omega
def s1 (n x : Nat) : Nat := ((x / 2) &&& rep 85 n) + (x &&& rep 85 n)
def s2 (n x : Nat) : Nat := ((x / 4) &&& rep 51 n) + (x &&& rep 51 n)
def s3 (n x : Nat) : Nat := (x / 16 + x) &&& rep 15 n
def t1 (a : Nat) : Nat := ((a / 2) &&& 85) + (a &&& 85)
def t2 (a : Nat) : Nat := ((a / 4) &&& 51) + (a &&& 51)
theorem t1_dec : ∀ a, a < 256 → (∀ e, e < 2 → (a / 2 + 128 * e) &&& 85 = (a / 2) &&& 85) ∧ t1 a < 256 := by decide +kernel
theorem t2_dec : ∀ a, a < 256 → (∀ e, e < 4 → (a / 4 + 64 * e) &&& 51 = (a / 4) &&& 51) := by decide +kernel
theorem t12_dec : ∀ a, a < 256 → t2 (t1 a) / 16 ≤ 4 ∧ t2 (t1 a) % 16 ≤ 4 ∧ t2 (t1 a) < 256 ∧ (∀ e, e < 5 → (t2 (t1 a) / 16 + t2 (t1 a) + 16 * e) < 256 ∧ (t2 (t1 a) / 16 + t2 (t1 a) + 16 * e) &&& 15 = pb 8 a) := by decide +kernel
theorem s1_cat (n a b : Nat) (ha : a < 256) : s1 (n + 1) (a + 256 * b) = t1 a + 256 * s1 n b := by
  show (((a + 256 * b) / 2) &&& (85 + 256 * rep 85 n)) + ((a + 256 * b) &&& (85 + 256 * rep 85 n)) = t1 a + 256 * s1 n b
  have e : (a + 256 * b) / 2 = (a / 2 + 128 * (b % 2)) + 256 * (b / 2) := by omega
  rw [e, and_cat _ _ _ _ (by omega) (by decide), and_cat _ _ _ _ ha (by decide), (t1_dec a ha).1 (b % 2) (by omega)]
  unfold t1 s1; omega
theorem s2_cat (n a b : Nat) (ha : a < 256) : s2 (n + 1) (a + 256 * b) = t2 a + 256 * s2 n b := by
  show (((a + 256 * b) / 4) &&& (51 + 256 * rep 51 n)) + ((a + 256 * b) &&& (51 + 256 * rep 51 n)) = t2 a + 256 * s2 n b
  have e : (a + 256 * b) / 4 = (a / 4 + 64 * (b % 4)) + 256 * (b / 4) := by omega
  rw [e, and_cat _ _ _ _ (by omega) (by decide), and_cat _ _ _ _ ha (by decide), t2_dec a ha (b % 4) (by omega)]
  unfold t2 s2; omega
/-- the sums of bytes, one a byte -/
def sums : Nat → Nat → Nat
  | 0, _ => 0
  | n + 1, x => pb 8 (x % 256) + 256 * sums n (x / 256)
theorem low_nib (n b : Nat) : s2 n (s1 n b) % 16 ≤ 4 := by
  cases n with
  | zero => simp [s2, s1, rep]
  | succ n =>
    have e : b = b % 256 + 256 * (b / 256) := by omega
    rw [e, s1_cat _ _ _ (by omega), s2_cat _ _ _ (t1_dec _ (by omega)).2]
    have := (t12_dec (b % 256) (by omega)).2.1
    omega
theorem s123 : ∀ (n x : Nat), s3 n (s2 n (s1 n x)) = sums n x
  | 0, x => by simp [s3, s2, s1, rep, sums]
  | n + 1, x => by
    have e : x = x % 256 + 256 * (x / 256) := by omega
    have ha : x % 256 < 256 := by omega
    have h := s123 n (x / 256)
    have hn := low_nib n (x / 256)
    obtain ⟨d1, d2, d3, d4⟩ := t12_dec (x % 256) ha
    unfold sums
    rw [e, s1_cat _ _ _ ha, s2_cat _ _ _ (t1_dec _ ha).2, ← e]
    unfold s3 at h ⊢
    obtain ⟨y, hy⟩ : ∃ y, y = s2 n (s1 n (x / 256)) := ⟨_, rfl⟩
    obtain ⟨z, hz⟩ : ∃ z, z = t2 (t1 (x % 256)) := ⟨_, rfl⟩
    rw [← hy] at h hn ⊢
    rw [← hz] at d1 d2 d3 d4 ⊢
    obtain ⟨d5, d6⟩ := d4 (y % 16) (by omega)
    have e2 : (z + 256 * y) / 16 + (z + 256 * y) = (z / 16 + z + 16 * (y % 16)) + 256 * (y / 16 + y) := by omega
    rw [e2]
    show _ &&& (15 + 256 * rep 15 n) = _
    rw [and_cat _ _ _ _ d5 (by decide), d6, h]
theorem sums8 (x : Nat) : ∃ p0 p1 p2 p3 p4 p5 p6 p7, (p0 ≤ 8 ∧ p1 ≤ 8 ∧ p2 ≤ 8 ∧ p3 ≤ 8 ∧ p4 ≤ 8 ∧ p5 ≤ 8 ∧ p6 ≤ 8 ∧ p7 ≤ 8) ∧
    sums 8 x = p0 + 256 * (p1 + 256 * (p2 + 256 * (p3 + 256 * (p4 + 256 * (p5 + 256 * (p6 + 256 * p7)))))) ∧ pb 64 x = p0 + p1 + p2 + p3 + p4 + p5 + p6 + p7 := by
  refine ⟨pb 8 (x % 256), pb 8 (x / 256 % 256), pb 8 (x / 256 / 256 % 256), pb 8 (x / 256 / 256 / 256 % 256), pb 8 (x / 256 / 256 / 256 / 256 % 256), pb 8 (x / 256 / 256 / 256 / 256 / 256 % 256), pb 8 (x / 256 / 256 / 256 / 256 / 256 / 256 % 256), pb 8 (x / 256 / 256 / 256 / 256 / 256 / 256 / 256 % 256), ⟨pb_le _ _, pb_le _ _, pb_le _ _, pb_le _ _, pb_le _ _, pb_le _ _, pb_le _ _, pb_le _ _⟩, ?_, ?_⟩
  · simp only [sums, Nat.mul_zero, Nat.add_zero]
  · have s : ∀ k y, pb (8 + k) y = pb 8 (y % 256) + pb k (y / 256) := fun k y => pb_split 8 k y
    have h0 : pb 64 (x) = pb 8 (x % 256) + pb 56 (x / 256) := s 56 _
    have h1 : pb 56 (x / 256) = pb 8 (x / 256 % 256) + pb 48 (x / 256 / 256) := s 48 _
    have h2 : pb 48 (x / 256 / 256) = pb 8 (x / 256 / 256 % 256) + pb 40 (x / 256 / 256 / 256) := s 40 _
    have h3 : pb 40 (x / 256 / 256 / 256) = pb 8 (x / 256 / 256 / 256 % 256) + pb 32 (x / 256 / 256 / 256 / 256) := s 32 _
    have h4 : pb 32 (x / 256 / 256 / 256 / 256) = pb 8 (x / 256 / 256 / 256 / 256 % 256) + pb 24 (x / 256 / 256 / 256 / 256 / 256) := s 24 _
    have h5 : pb 24 (x / 256 / 256 / 256 / 256 / 256) = pb 8 (x / 256 / 256 / 256 / 256 / 256 % 256) + pb 16 (x / 256 / 256 / 256 / 256 / 256 / 256) := s 16 _
    have h6 : pb 16 (x / 256 / 256 / 256 / 256 / 256 / 256) = pb 8 (x / 256 / 256 / 256 / 256 / 256 / 256 % 256) + pb 8 (x / 256 / 256 / 256 / 256 / 256 / 256 / 256) := s 8 _
    have h7 : pb 8 (x / 256 / 256 / 256 / 256 / 256 / 256 / 256) = pb 8 (x / 256 / 256 / 256 / 256 / 256 / 256 / 256 % 256) + pb 0 (x / 256 / 256 / 256 / 256 / 256 / 256 / 256 / 256) := s 0 _
    have h8 : pb 0 (x / 256 / 256 / 256 / 256 / 256 / 256 / 256 / 256) = 0 := rfl
    omega
/-- what the program does with a word -/
def ones (x : Nat) : Nat :=
  let y := s3 8 (s2 8 (s1 8 x))
  let y := y + y / 256
  let y := y + y / 65536
  let y := y + y / 4294967296
  y % 128
theorem dv (L R M : Nat) (h : L < M) : (L + M * R) / M = R := by rw [Nat.add_mul_div_left _ _ (by omega), Nat.div_eq_of_lt h, Nat.zero_add]
section
variable (p0 p1 p2 p3 p4 p5 p6 p7 : Nat)
def Y0 : Nat := p0 + 256 * (p1 + 256 * (p2 + 256 * (p3 + 256 * (p4 + 256 * (p5 + 256 * (p6 + 256 * p7))))))
def Y1 : Nat := p1 + 256 * (p2 + 256 * (p3 + 256 * (p4 + 256 * (p5 + 256 * (p6 + 256 * p7)))))
def Z0 : Nat := (p2 + p3) + 256 * ((p3 + p4) + 256 * ((p4 + p5) + 256 * ((p5 + p6) + 256 * ((p6 + p7) + 256 * p7))))
def U0 : Nat := (p0 + p1 + p2 + p3) + 256 * ((p1 + p2 + p3 + p4) + 256 * ((p2 + p3 + p4 + p5) + 256 * (p3 + p4 + p5 + p6)))
def U1 : Nat := (p4 + p5 + p6 + p7) + 256 * ((p5 + p6 + p7) + 256 * ((p6 + p7) + 256 * p7))
theorem lin1 : Y0 p0 p1 p2 p3 p4 p5 p6 p7 + Y1 p1 p2 p3 p4 p5 p6 p7 = ((p0 + p1) + 256 * (p1 + p2)) + 65536 * Z0 p2 p3 p4 p5 p6 p7 := by unfold Y0 Y1 Z0; omega
theorem lin2 : ((p0 + p1) + 256 * (p1 + p2)) + 65536 * Z0 p2 p3 p4 p5 p6 p7 + Z0 p2 p3 p4 p5 p6 p7 = U0 p0 p1 p2 p3 p4 p5 p6 + 4294967296 * U1 p4 p5 p6 p7 := by unfold Z0 U0 U1; omega
theorem lin3 : U0 p0 p1 p2 p3 p4 p5 p6 + 4294967296 * U1 p4 p5 p6 p7 + U1 p4 p5 p6 p7 = (p0 + p1 + p2 + p3 + p4 + p5 + p6 + p7) + 128 * (2 * ((p1 + p2 + p3 + p4) + 256 * ((p2 + p3 + p4 + p5) + 256 * (p3 + p4 + p5 + p6))) + 33554432 * U1 p4 p5 p6 p7 + 2 * ((p5 + p6 + p7) + 256 * ((p6 + p7) + 256 * p7))) := by unfold U0 U1; omega
end
theorem ones_sum (p0 p1 p2 p3 p4 p5 p6 p7 y : Nat) (l : p0 ≤ 8 ∧ p1 ≤ 8 ∧ p2 ≤ 8 ∧ p3 ≤ 8 ∧ p4 ≤ 8 ∧ p5 ≤ 8 ∧ p6 ≤ 8 ∧ p7 ≤ 8) (hy : y = Y0 p0 p1 p2 p3 p4 p5 p6 p7) :
    (y + y / 256 + (y + y / 256) / 65536 + (y + y / 256 + (y + y / 256) / 65536) / 4294967296) % 128 = p0 + p1 + p2 + p3 + p4 + p5 + p6 + p7 := by
  have e1 : y / 256 = Y1 p1 p2 p3 p4 p5 p6 p7 := by rw [hy]; exact dv _ _ _ (by omega)
  have q1 : (p0 + p1) + 256 * (p1 + p2) < 65536 := by omega
  have q2 : U0 p0 p1 p2 p3 p4 p5 p6 < 4294967296 := by clear hy e1; unfold U0; omega
  have q3 : p0 + p1 + p2 + p3 + p4 + p5 + p6 + p7 < 128 := by omega
  rw [e1, hy, lin1, dv _ _ _ q1, lin2, dv _ _ _ q2, lin3, Nat.add_mul_mod_self_left, Nat.mod_eq_of_lt q3]
theorem ones_pb (x : Nat) : ones x = pb 64 x := by
  obtain ⟨p0, p1, p2, p3, p4, p5, p6, p7, hl, hs, hp⟩ := sums8 x
  rw [hp]
  show (s3 8 (s2 8 (s1 8 x)) + s3 8 (s2 8 (s1 8 x)) / 256 + (s3 8 (s2 8 (s1 8 x)) + s3 8 (s2 8 (s1 8 x)) / 256) / 65536 + (s3 8 (s2 8 (s1 8 x)) + s3 8 (s2 8 (s1 8 x)) / 256 + (s3 8 (s2 8 (s1 8 x)) + s3 8 (s2 8 (s1 8 x)) / 256) / 65536) / 4294967296) % 128 = _
  rw [s123]
  exact ones_sum _ _ _ _ _ _ _ _ _ hl hs
@[irreducible] def o64 (x : Nat) : Nat := pb 64 x
theorem o64_eq : o64 = pb 64 := by funext x; unfold o64; rfl
theorem o64_le (x : Nat) : o64 x ≤ 64 := by rw [o64_eq]; exact pb_le _ _
theorem rep85 : rep 85 8 = 6148914691236517205 := by decide +kernel
theorem rep51 : rep 51 8 = 3689348814741910323 := by decide +kernel
theorem rep15 : rep 15 8 = 1085102592571150095 := by decide +kernel
end Hy.Pop
