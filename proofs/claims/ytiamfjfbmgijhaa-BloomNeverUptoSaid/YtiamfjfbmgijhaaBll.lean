/- Bloom: the plain words. No program in sight. -/
import Derived.Handy
namespace Hy
/-- a cell of a column -/
structure C where
  k : Int
  n : Nat
  s : ByteArray
def C.ok (c : C) : Prop := -9223372036854775808 ≤ c.k ∧ c.k ≤ 9223372036854775807 ∧ c.n < 18446744073709551616 ∧ c.s.size ≤ 140737488351232
def C.cells (c : C) : List Go.Value := [.int .i64 c.k, .int .u64 c.n, .string c.s]
def C.okL (l : List C) : Prop := ∀ c ∈ l, c.n < 18446744073709551616 ∧ c.s.size ≤ 140737488351232
namespace Bloom
@[irreducible] def step (h : Nat) (b : UInt8) : Nat := (h ^^^ b.toNat) * 1099511628211 % 18446744073709551616
def fnv (h : Nat) (l : List UInt8) : Nat := l.foldl step h
def be (n : Nat) : Nat → List UInt8 | 0 => [] | k + 1 => be (n / 256) k ++ [UInt8.ofNat n]
def kb (k : Int) : UInt8 := UInt8.ofNat (k % 256).toNat
def start : Nat := 14695981039346656037
def bytes (c : C) : List UInt8 := kb c.k :: (be c.n 8 ++ c.s.data.toList)
def hash (c : C) : Nat := fnv start (bytes c)
theorem step_lt (h : Nat) (b : UInt8) : step h b < 18446744073709551616 := by unfold step; exact Nat.mod_lt _ (by decide)
theorem fnv_lt (h : Nat) (l : List UInt8) (hh : h < 18446744073709551616) : fnv h l < 18446744073709551616 := by
  induction l generalizing h with
  | nil => exact hh
  | cons b l ih => exact ih _ (step_lt h b)
theorem fold_snoc {α β : Type} (st : α → β → α) (h : α) (l : List β) (b : β) : (l ++ [b]).foldl st h = st (l.foldl st h) b := by simp
theorem fold_app {α β : Type} (st : α → β → α) (h : α) (l m : List β) : (l ++ m).foldl st h = m.foldl st (l.foldl st h) := by simp
theorem fold_one {α β : Type} (st : α → β → α) (h : α) (b : β) : [b].foldl st h = st h b := rfl
theorem fnv_one (h : Nat) (b : UInt8) : fnv h [b] = step h b := fold_one step h b
theorem fnv_cons (h : Nat) (b : UInt8) (l : List UInt8) : fnv h (b :: l) = fnv (step h b) l := (fold_app step h [b] l).trans (congrArg (fun x => l.foldl step x) (fold_one step h b))
theorem fnv_nil (h : Nat) : fnv h [] = h := rfl
theorem fnv_append (h : Nat) (l m : List UInt8) : fnv h (l ++ m) = fnv (fnv h l) m := fold_app step h l m
theorem fnv_snoc (h : Nat) (l : List UInt8) (b : UInt8) : fnv h (l ++ [b]) = step (fnv h l) b := fold_snoc step h l b
theorem start_lt : start < 18446744073709551616 := by unfold start; omega
theorem start_int : ((start : Nat) : Int) = 14695981039346656037 := by unfold start; omega
theorem hash_lt (c : C) : hash c < 18446744073709551616 := fnv_lt _ _ start_lt
theorem xor_low (h b : Nat) (hb : b < 256) : h - h % 256 + ((h % 256) ^^^ b) = h ^^^ b := by
  have e1 : (h ^^^ b) % 2 ^ 8 = (h % 2 ^ 8) ^^^ (b % 2 ^ 8) := Nat.xor_mod_two_pow
  have e2 : (h ^^^ b) / 2 ^ 8 = (h / 2 ^ 8) ^^^ (b / 2 ^ 8) := Nat.xor_div_two_pow
  rw [show b / 2 ^ 8 = 0 from by omega, Nat.xor_zero] at e2
  rw [show b % 2 ^ 8 = b from by omega] at e1
  simp only [Nat.reducePow] at e1 e2
  omega
theorem be_length (n k : Nat) : (be n k).length = k := by
  induction k generalizing n with
  | zero => rfl
  | succ k ih => simp [be, ih]
theorem be_cons (n k : Nat) : be n (k + 1) = UInt8.ofNat (n / 256 ^ k) :: be n k := by
  induction k generalizing n with
  | zero => simp [be]
  | succ k ih => rw [be, ih, be, Nat.div_div_eq_div_mul, Nat.pow_succ, Nat.mul_comm]; rfl
theorem step_int (h : Nat) (b : UInt8) : Go.IntKind.u64.wrap (((h ^^^ b.toNat : Nat) : Int) * 1099511628211) = ((step h b : Nat) : Int) := by
  rw [Go.IntKind.wrap_u64]; unfold step; omega
theorem be8 (n : Nat) : be n 8 = [UInt8.ofNat (n / 72057594037927936), UInt8.ofNat (n / 281474976710656), UInt8.ofNat (n / 1099511627776), UInt8.ofNat (n / 4294967296), UInt8.ofNat (n / 16777216), UInt8.ofNat (n / 65536), UInt8.ofNat (n / 256), UInt8.ofNat n] := by
  simp [be, Nat.div_div_eq_div_mul]

theorem ab8 {α β : Type} (st : α → β → α) (H : α) (a b c d e f g h : β) : [a, b, c, d, e, f, g, h].foldl st H = st (st (st (st (st (st (st (st H a) b) c) d) e) f) g) h := rfl
theorem cg8 {α β : Type} (st : α → β → α) (H : α) {a b c d e f g h a' b' c' d' e' f' g' h' : β} (e0 : a = a') (e1 : b = b') (e2 : c = c') (e3 : d = d') (e4 : e = e') (e5 : f = f') (e6 : g = g') (e7 : h = h') :
    st (st (st (st (st (st (st (st H a) b) c) d) e) f) g) h = st (st (st (st (st (st (st (st H a') b') c') d') e') f') g') h' := by subst e0 e1 e2 e3 e4 e5 e6 e7; rfl
theorem of_div (n D : Nat) : UInt8.ofNat (n / D) = UInt8.ofNat ((n : Int) / (D : Int)).toNat := by
  rw [show ((n : Int) / (D : Int)).toNat = n / D from by rw [← Int.natCast_ediv]; exact Int.toNat_natCast _]
theorem fnv8 (H n : Nat) : fnv H (be n 8) = step (step (step (step (step (step (step (step H (UInt8.ofNat ((n : Int) / 72057594037927936).toNat)) (UInt8.ofNat ((n : Int) / 281474976710656).toNat)) (UInt8.ofNat ((n : Int) / 1099511627776).toNat)) (UInt8.ofNat ((n : Int) / 4294967296).toNat)) (UInt8.ofNat ((n : Int) / 16777216).toNat)) (UInt8.ofNat ((n : Int) / 65536).toNat)) (UInt8.ofNat ((n : Int) / 256).toNat)) (UInt8.ofNat ((n : Int)).toNat) := by
  unfold fnv
  rw [be8]
  refine (ab8 step H _ _ _ _ _ _ _ _).trans (cg8 step H ?_ ?_ ?_ ?_ ?_ ?_ ?_ ?_)
  · exact of_div n 72057594037927936
  · exact of_div n 281474976710656
  · exact of_div n 1099511627776
  · exact of_div n 4294967296
  · exact of_div n 16777216
  · exact of_div n 65536
  · exact of_div n 256
  · rfl

/-! ### filters: 256 marks in four words -/
def F : Type := Nat → Nat
def arr (f : F) : Array Go.Value := #[.int .u64 (f 0 : Nat), .int .u64 (f 1 : Nat), .int .u64 (f 2 : Nat), .int .u64 (f 3 : Nat)]
theorem arr_get (f : F) (q : Nat) (h : q < 4) : (arr f)[q]? = some (.int .u64 (f q : Nat)) := by
  match q, h with
  | 0, _ => rfl
  | 1, _ => rfl
  | 2, _ => rfl
  | 3, _ => rfl
def upd (f : F) (q v : Nat) : F := fun i => if i = q then v else f i
theorem arr_set (f : F) (q v : Nat) (h : q < 4) : (arr f).setIfInBounds q (.int .u64 (v : Nat)) = arr (upd f q v) := by
  match q, h with
  | 0, _ => rfl
  | 1, _ => rfl
  | 2, _ => rfl
  | 3, _ => rfl
@[irreducible] def p2 (k : Nat) : Nat := 2 ^ k
theorem p2_eq (k : Nat) : p2 k = 2 ^ k := by unfold p2; rfl
theorem p2_succ (k : Nat) : p2 (k + 1) = p2 k * 2 := by simp only [p2_eq, Nat.pow_succ]
theorem p2_pos (k : Nat) : 1 ≤ p2 k := by rw [p2_eq]; exact Nat.two_pow_pos k
theorem p2_lt (k : Nat) (h : k < 64) : p2 k < 18446744073709551616 := by
  rw [p2_eq]
  have : 2 ^ k < 2 ^ 64 := Nat.pow_lt_pow_right (by decide) h
  omega
def F.ok (f : F) : Prop := ∀ i, f i < 18446744073709551616
def none : F := fun _ => 0
def hasm (f : F) (m : Nat) : Bool := (f (m / 64)).testBit (m % 64)
def setm (f : F) (m : Nat) : F := fun i => if i = m / 64 then f i ||| 2 ^ (m % 64) else f i
def mark0 (c : C) : Nat := hash c % 256
def mark1 (c : C) : Nat := hash c / 1048576 % 256
def mark2 (c : C) : Nat := hash c / 1099511627776 % 256
def add (f : F) (c : C) : F := setm (setm (setm f (mark0 c)) (mark1 c)) (mark2 c)
def of (f : F) (l : List C) : F := l.foldl add f
def may (f : F) (c : C) : Bool := hasm f (mark0 c) && hasm f (mark1 c) && hasm f (mark2 c)
def union (a b : F) : F := fun i => a i ||| b i
theorem or_lt (a b : Nat) (ha : a < 18446744073709551616) (hb : b < 18446744073709551616) : a ||| b < 18446744073709551616 := by
  have : a ||| b < 2 ^ 64 := Nat.or_lt_two_pow (by omega) (by omega)
  omega
theorem pow_lt (k : Nat) (h : k < 64) : 2 ^ k < 18446744073709551616 := by
  have : 2 ^ k < 2 ^ 64 := Nat.pow_lt_pow_right (by decide) h
  omega
theorem setm_upd (f : F) (m : Nat) : setm f m = upd f (m / 64) (f (m / 64) ||| p2 (m % 64)) := by
  funext i; unfold setm upd; rw [p2_eq]; split
  · rename_i e; rw [e]
  · rfl
theorem shl_p2 (r : Nat) (h : r < 64) : Go.IntKind.u64.wrap ((2 : Int) ^ r) = ((p2 r : Nat) : Int) := by
  have h1 := p2_lt r h
  have h2 : ((2 : Int) ^ r) = ((2 ^ r : Nat) : Int) := by simp
  rw [p2_eq] at *
  rw [h2, Go.IntKind.wrap_u64]
  generalize (2 ^ r : Nat) = x at *
  omega
theorem setm_ok {f : F} (h : f.ok) (m : Nat) : (setm f m).ok := by
  intro i; unfold setm; split
  · exact or_lt _ _ (h i) (pow_lt _ (Nat.mod_lt _ (by decide)))
  · exact h i
theorem add_ok {f : F} (h : f.ok) (c : C) : (add f c).ok := setm_ok (setm_ok (setm_ok h _) _) _
theorem of_ok {f : F} (h : f.ok) (l : List C) : (of f l).ok := by
  induction l generalizing f with
  | nil => exact h
  | cons c l ih => exact ih (add_ok h c)
theorem of_snoc (f : F) (l : List C) (c : C) : of f (l ++ [c]) = add (of f l) c := fold_snoc add f l c
theorem arr_set4 (f g : F) : ((((arr f).setIfInBounds 0 (.int .u64 (g 0 : Nat))).setIfInBounds 1 (.int .u64 (g 1 : Nat))).setIfInBounds 2 (.int .u64 (g 2 : Nat))).setIfInBounds 3 (.int .u64 (g 3 : Nat)) = arr g := rfl
theorem union_ok {a b : F} (ha : a.ok) (hb : b.ok) : (union a b).ok := fun i => or_lt _ _ (ha i) (hb i)
theorem none_ok : none.ok := fun _ => by unfold none; decide
theorem hasm_eq (f : F) (m : Nat) : hasm f m = (f (m / 64) / 2 ^ (m % 64) % 2 == 1) := by
  unfold hasm; rw [Nat.testBit_eq_decide_div_mod_eq]; rfl
/-- a mark that is not there is put there by a sum -/
theorem or_sum (x k : Nat) (h : x.testBit k = false) : x ||| 2 ^ k = x + 2 ^ k := by
  have e1 : (x ||| 2 ^ k) / 2 ^ k = (x / 2 ^ k) ||| (2 ^ k / 2 ^ k) := Nat.or_div_two_pow
  have e2 : (x ||| 2 ^ k) % 2 ^ k = (x % 2 ^ k) ||| (2 ^ k % 2 ^ k) := Nat.or_mod_two_pow
  have hp : 0 < 2 ^ k := Nat.two_pow_pos k
  rw [Nat.div_self hp] at e1
  rw [Nat.mod_self, Nat.or_zero] at e2
  rw [Nat.testBit_eq_decide_div_mod_eq] at h
  have h2 : x / 2 ^ k % 2 ^ 1 = 0 := by simp at h; omega
  rw [Go.nat_join 1 (x / 2 ^ k) 1 h2 (by decide)] at e1
  have d1 := Nat.div_add_mod (x ||| 2 ^ k) (2 ^ k)
  have d2 := Nat.div_add_mod x (2 ^ k)
  rw [e1, e2, Nat.mul_add] at d1
  omega
theorem setm_of (f : F) (m : Nat) (h : hasm f m = true) : setm f m = f := by
  funext i; unfold setm; split
  · rename_i e; subst e
    unfold hasm at h
    apply Nat.eq_of_testBit_eq; intro j
    rw [Nat.testBit_or, Nat.testBit_two_pow]
    by_cases hj : m % 64 = j
    · subst hj; simp [h]
    · simp [hj]
  · rfl
theorem hasm_set (f : F) (m : Nat) : hasm (setm f m) m = true := by
  unfold hasm setm; simp [Nat.testBit_or]
theorem hasm_mono (f : F) (m m' : Nat) (h : hasm f m = true) : hasm (setm f m') m = true := by
  unfold hasm setm at *; split <;> simp [Nat.testBit_or, h]
/-- are two filters the same? -/
def sameF (a b : F) : Bool := ((a 0 : Int) == (b 0 : Int) && ((a 1 : Int) == (b 1 : Int) && ((a 2 : Int) == (b 2 : Int) && (a 3 : Int) == (b 3 : Int))))
theorem sameF_iff (a b : F) : sameF a b = true ↔ (a 0 = b 0 ∧ a 1 = b 1 ∧ a 2 = b 2 ∧ a 3 = b 3) := by
  unfold sameF; simp only [Bool.and_eq_true, beq_iff_eq]; omega
theorem sameF_at {a b : F} (h : sameF a b = true) (q : Nat) (hq : q < 4) : a q = b q := by
  obtain ⟨h0, h1, h2, h3⟩ := (sameF_iff a b).1 h
  match q, hq with
  | 0, _ => exact h0
  | 1, _ => exact h1
  | 2, _ => exact h2
  | 3, _ => exact h3
theorem mark0_lt (c : C) : mark0 c < 256 := Nat.mod_lt _ (by decide)
theorem mark1_lt (c : C) : mark1 c < 256 := Nat.mod_lt _ (by decide)
theorem mark2_lt (c : C) : mark2 c < 256 := Nat.mod_lt _ (by decide)
theorem add_has (f : F) (c : C) : hasm (add f c) (mark0 c) = true ∧ hasm (add f c) (mark1 c) = true ∧ hasm (add f c) (mark2 c) = true :=
  ⟨hasm_mono _ _ _ (hasm_mono _ _ _ (hasm_set f _)), hasm_mono _ _ _ (hasm_set _ _), hasm_set _ _⟩
theorem may_iff (f : F) (c : C) : may f c = true ↔ (hasm f (mark0 c) = true ∧ hasm f (mark1 c) = true ∧ hasm f (mark2 c) = true) := by
  unfold may; simp only [Bool.and_eq_true, and_assoc]
theorem add_of_may (f : F) (c : C) (h : may f c = true) : add f c = f := by
  obtain ⟨h0, h1, h2⟩ := (may_iff f c).1 h
  unfold add; rw [setm_of f _ h0, setm_of f _ h1, setm_of f _ h2]
theorem same_add (f : F) (c : C) : sameF (add f c) f = may f c := by
  rw [Bool.eq_iff_iff]
  constructor
  · intro h
    obtain ⟨h0, h1, h2⟩ := add_has f c
    refine (may_iff f c).2 ⟨?_, ?_, ?_⟩
    · unfold hasm at *; rw [← sameF_at h _ (by have := mark0_lt c; omega)]; exact h0
    · unfold hasm at *; rw [← sameF_at h _ (by have := mark1_lt c; omega)]; exact h1
    · unfold hasm at *; rw [← sameF_at h _ (by have := mark2_lt c; omega)]; exact h2
  · intro h
    rw [add_of_may f c h]
    exact (sameF_iff f f).2 ⟨rfl, rfl, rfl, rfl⟩
/-- what was added may be there, whatever comes behind -/
theorem may_add (f : F) (c : C) : may (add f c) c = true := (may_iff _ _).2 (add_has f c)
theorem has_add (f : F) (c : C) (m : Nat) (h : hasm f m = true) : hasm (add f c) m = true := hasm_mono _ _ _ (hasm_mono _ _ _ (hasm_mono _ _ _ h))
theorem has_of (f : F) (l : List C) (m : Nat) (h : hasm f m = true) : hasm (of f l) m = true := by
  induction l generalizing f with
  | nil => exact h
  | cons c l ih => exact ih (add f c) (has_add f c m h)
theorem may_of (f : F) (l : List C) (c : C) (h : may f c = true) : may (of f l) c = true := by
  obtain ⟨h0, h1, h2⟩ := (may_iff f c).1 h
  exact (may_iff _ _).2 ⟨has_of _ _ _ h0, has_of _ _ _ h1, has_of _ _ _ h2⟩
theorem of_app (f : F) (l m : List C) : of f (l ++ m) = of (of f l) m := fold_app add f l m
theorem may_in (f : F) (l m : List C) (c : C) : may (of f (l ++ [c] ++ m)) c = true := by
  rw [of_app, of_snoc]; exact may_of _ _ _ (may_add _ _)
/-! ### union -/
theorem union_comm (a b : F) : union a b = union b a := by funext i; exact Nat.or_comm _ _
theorem union_none (a : F) : union a none = a := by funext i; exact Nat.or_zero _
theorem union_self_l (a b : F) : union (union a b) a = union a b := by
  funext i; unfold union; apply Nat.eq_of_testBit_eq; intro j; simp only [Nat.testBit_or]; cases (a i).testBit j <;> cases (b i).testBit j <;> rfl
theorem union_setm (a b : F) (m : Nat) : union a (setm b m) = setm (union a b) m := by
  funext i; unfold union setm; split
  · exact (Nat.or_assoc _ _ _).symm
  · rfl
theorem union_add (a b : F) (c : C) : union a (add b c) = add (union a b) c := by unfold add; rw [union_setm, union_setm, union_setm]
theorem union_of (a b : F) (l : List C) : union a (of b l) = of (union a b) l := by
  induction l generalizing b with
  | nil => rfl
  | cons c l ih => exact (ih (add b c)).trans (by rw [union_add]; rfl)
theorem union_lists (l m : List C) : union (of none l) (of none m) = of none (l ++ m) := by rw [union_of, union_none, of_app]
theorem may_union_l (a b : F) (c : C) (h : may a c = true) : may (union a b) c = true := by
  obtain ⟨h0, h1, h2⟩ := (may_iff a c).1 h
  have k : ∀ m, hasm a m = true → hasm (union a b) m = true := fun m h => by unfold hasm union at *; rw [Nat.testBit_or, h]; rfl
  exact (may_iff _ _).2 ⟨k _ h0, k _ h1, k _ h2⟩
end Bloom
end Hy
