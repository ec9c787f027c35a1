/- Bloom: the plain words. No program in sight. Bloom: the walks of hashes. Bloom: the walks of marks and filters. Bloom: the walks of marks and filters. Bloom: the walks of filters. -/
import Derived.Test.YtpheegfanljeeaaRows
import Derived.Test.YtpheegfanljeeaaBase
import Derived.Handy
section
namespace Hy
/-- a cell of a column -/
structure C where
  k : Int
  n : Nat
  s : ByteArray
def C.ok (c : C) : Prop := -9223372036854775808 ≤ c.k ∧ c.k ≤ 9223372036854775807 ∧ c.n < 18446744073709551616 ∧ c.s.size ≤ 140737488351232
def C.cells (c : C) : List Go.Value := [.int .i64 c.k, .int .u64 c.n, .string c.s]
def C.okL (l : List C) : Prop := ∀ c ∈ l, c.n < 18446744073709551616 ∧ c.s.size ≤ 140737488351232
namespace Bloom
@[irreducible] def step (h : Nat) (b : UInt8) : Nat := (h ^^^ b.toNat) * 1099511628211 % 18446744073709551616
def fnv (h : Nat) (l : List UInt8) : Nat := l.foldl step h
def be (n : Nat) : Nat → List UInt8 | 0 => [] | k + 1 => be (n / 256) k ++ [UInt8.ofNat n]
def kb (k : Int) : UInt8 := UInt8.ofNat (k % 256).toNat
def start : Nat := 14695981039346656037
def bytes (c : C) : List UInt8 := kb c.k :: (be c.n 8 ++ c.s.data.toList)
def hash (c : C) : Nat := fnv start (bytes c)
theorem step_lt (h : Nat) (b : UInt8) : step h b < 18446744073709551616 := by unfold step; exact Nat.mod_lt _ (by decide)
theorem fnv_lt (h : Nat) (l : List UInt8) (hh : h < 18446744073709551616) : fnv h l < 18446744073709551616 := by
  induction l generalizing h with
  | nil => exact hh
  | cons b l ih => exact ih _ (step_lt h b)
theorem fold_snoc {α β : Type} (st : α → β → α) (h : α) (l : List β) (b : β) : (l ++ [b]).foldl st h = st (l.foldl st h) b := by simp
theorem fold_app {α β : Type} (st : α → β → α) (h : α) (l m : List β) : (l ++ m).foldl st h = m.foldl st (l.foldl st h) := by simp
theorem fold_one {α β : Type} (st : α → β → α) (h : α) (b : β) : [b].foldl st h = st h b := rfl
theorem fnv_one (h : Nat) (b : UInt8) : fnv h [b] = step h b := fold_one step h b
theorem fnv_cons (h : Nat) (b : UInt8) (l : List UInt8) : fnv h (b :: l) = fnv (step h b) l := (fold_app step h [b] l).trans (congrArg (fun x => l.foldl step x) (fold_one step h b))
theorem fnv_nil (h : Nat) : fnv h [] = h := rfl
theorem fnv_append (h : Nat) (l m : List UInt8) : fnv h (l ++ m) = fnv (fnv h l) m := fold_app step h l m
theorem fnv_snoc (h : Nat) (l : List UInt8) (b : UInt8) : fnv h (l ++ [b]) = step (fnv h l) b := fold_snoc step h l b
theorem start_lt : start < 18446744073709551616 := by unfold start; omega
theorem start_int : ((start : Nat) : Int) = 14695981039346656037 := by unfold start; omega
theorem hash_lt (c : C) : hash c < 18446744073709551616 := fnv_lt _ _ start_lt
theorem xor_low (h b : Nat) (hb : b < 256) : h - h % 256 + ((h % 256) ^^^ b) = h ^^^ b := by
  have e1 : (h ^^^ b) % 2 ^ 8 = (h % 2 ^ 8) ^^^ (b % 2 ^ 8) := Nat.xor_mod_two_pow
  have e2 : (h ^^^ b) / 2 ^ 8 = (h / 2 ^ 8) ^^^ (b / 2 ^ 8) := Nat.xor_div_two_pow
  rw [show b / 2 ^ 8 = 0 from by omega, Nat.xor_zero] at e2
  rw [show b % 2 ^ 8 = b from by omega] at e1
  simp only [Nat.reducePow] at e1 e2
  omega
theorem be_length (n k : Nat) : (be n k).length = k := by
  induction k generalizing n with
  | zero => rfl
  | succ k ih => simp [be, ih]
theorem be_cons (n k : Nat) : be n (k + 1) = UInt8.ofNat (n / 256 ^ k) :: be n k := by
  induction k generalizing n with
  | zero => simp [be]
  | succ k ih => rw [be, ih, be, Nat.div_div_eq_div_mul, Nat.pow_succ, Nat.mul_comm]; rfl
theorem step_int (h : Nat) (b : UInt8) : Go.IntKind.u64.wrap (((h ^^^ b.toNat : Nat) : Int) * 1099511628211) = ((step h b : Nat) : Int) := by
  rw [Go.IntKind.wrap_u64]; unfold step; omega
theorem be8 (n : Nat) : be n 8 = [UInt8.ofNat (n / 72057594037927936), UInt8.ofNat (n / 281474976710656), UInt8.ofNat (n / 1099511627776), UInt8.ofNat (n / 4294967296), UInt8.ofNat (n / 16777216), UInt8.ofNat (n / 65536), UInt8.ofNat (n / 256), UInt8.ofNat n] := by
  simp [be, Nat.div_div_eq_div_mul]

theorem ab8 {α β : Type} (st : α → β → α) (H : α) (a b c d e f g h : β) : [a, b, c, d, e, f, g, h].foldl st H = st (st (st (st (st (st (st (st H a) b) c) d) e) f) g) h := rfl
theorem cg8 {α β : Type} (st : α → β → α) (H : α) {a b c d e f g h a' b' c' d' e' f' g' h' : β} (e0 : a = a') (e1 : b = b') (e2 : c = c') (e3 : d = d') (e4 : e = e') (e5 : f = f') (e6 : g = g') (e7 : h = h') :
    st (st (st (st (st (st (st (st H a) b) c) d) e) f) g) h = st (st (st (st (st (st (st (st H a') b') c') d') e') f') g') h' := by subst e0 e1 e2 e3 e4 e5 e6 e7; rfl
theorem of_div (n D : Nat) : UInt8.ofNat (n / D) = UInt8.ofNat ((n : Int) / (D : Int)).toNat := by
  rw [show ((n : Int) / (D : Int)).toNat = n / D from by rw [← Int.natCast_ediv]; exact Int.toNat_natCast _]
theorem fnv8 (H n : Nat) : fnv H (be n 8) = step (step (step (step (step (step (step (step H (UInt8.ofNat ((n : Int) / 72057594037927936).toNat)) (UInt8.ofNat ((n : Int) / 281474976710656).toNat)) (UInt8.ofNat ((n : Int) / 1099511627776).toNat)) (UInt8.ofNat ((n : Int) / 4294967296).toNat)) (UInt8.ofNat ((n : Int) / 16777216).toNat)) (UInt8.ofNat ((n : Int) / 65536).toNat)) (UInt8.ofNat ((n : Int) / 256).toNat)) (UInt8.ofNat ((n : Int)).toNat) := by
  unfold fnv
  rw [be8]
  refine (ab8 step H _ _ _ _ _ _ _ _).trans (cg8 step H ?_ ?_ ?_ ?_ ?_ ?_ ?_ ?_)
  · exact of_div n 72057594037927936
  · exact of_div n 281474976710656
  · exact of_div n 1099511627776
  · exact of_div n 4294967296
  · exact of_div n 16777216
  · exact of_div n 65536
  · exact of_div n 256
  · rfl

/-! ### filters: 256 marks in four words -/
def F : Type := Nat → Nat
def arr (f : F) : Array Go.Value := #[.int .u64 (f 0 : Nat), .int .u64 (f 1 : Nat), .int .u64 (f 2 : Nat), .int .u64 (f 3 : Nat)]
theorem arr_get (f : F) (q : Nat) (h : q < 4) : (arr f)[q]? = some (.int .u64 (f q : Nat)) := by
  match q, h with
  | 0, _ => rfl
  | 1, _ => rfl
  | 2, _ => rfl
  | 3, _ => rfl
def upd (f : F) (q v : Nat) : F := fun i => if i = q then v else f i
theorem arr_set (f : F) (q v : Nat) (h : q < 4) : (arr f).setIfInBounds q (.int .u64 (v : Nat)) = arr (upd f q v) := by
  match q, h with
  | 0, _ => rfl
  | 1, _ => rfl
  | 2, _ => rfl
  | 3, _ => rfl
@[irreducible] def p2 (k : Nat) : Nat := 2 ^ k
theorem p2_eq (k : Nat) : p2 k = 2 ^ k := by unfold p2; rfl
theorem p2_succ (k : Nat) : p2 (k + 1) = p2 k * 2 := by simp only [p2_eq, Nat.pow_succ]
theorem p2_pos (k : Nat) : 1 ≤ p2 k := by rw [p2_eq]; exact Nat.two_pow_pos k
theorem p2_lt (k : Nat) (h : k < 64) : p2 k < 18446744073709551616 := by
  rw [p2_eq]
  have : 2 ^ k < 2 ^ 64 := Nat.pow_lt_pow_right (by decide) h
  omega
def F.ok (f : F) : Prop := ∀ i, f i < 18446744073709551616
def none : F := fun _ => 0
def hasm (f : F) (m : Nat) : Bool := (f (m / 64)).testBit (m % 64)
def setm (f : F) (m : Nat) : F := fun i => if i = m / 64 then f i ||| 2 ^ (m % 64) else f i
def mark0 (c : C) : Nat := hash c % 256
def mark1 (c : C) : Nat := hash c / 1048576 % 256
def mark2 (c : C) : Nat := hash c / 1099511627776 % 256
def add (f : F) (c : C) : F := setm (setm (setm f (mark0 c)) (mark1 c)) (mark2 c)
def of (f : F) (l : List C) : F := l.foldl add f
def may (f : F) (c : C) : Bool := hasm f (mark0 c) && hasm f (mark1 c) && hasm f (mark2 c)
def union (a b : F) : F := fun i => a i ||| b i
theorem or_lt (a b : Nat) (ha : a < 18446744073709551616) (hb : b < 18446744073709551616) : a ||| b < 18446744073709551616 := by
  have : a ||| b < 2 ^ 64 := Nat.or_lt_two_pow (by omega) (by omega)
  omega
theorem pow_lt (k : Nat) (h : k < 64) : 2 ^ k < 18446744073709551616 := by
  have : 2 ^ k < 2 ^ 64 := Nat.pow_lt_pow_right (by decide) h
  omega
theorem setm_upd (f : F) (m : Nat) : setm f m = upd f (m / 64) (f (m / 64) ||| p2 (m % 64)) := by
  funext i; unfold setm upd; rw [p2_eq]; split
  · rename_i e; rw [e]
  · rfl
theorem shl_p2 (r : Nat) (h : r < 64) : Go.IntKind.u64.wrap ((2 : Int) ^ r) = ((p2 r : Nat) : Int) := by
  have h1 := p2_lt r h
  have h2 : ((2 : Int) ^ r) = ((2 ^ r : Nat) : Int) := by simp
  rw [p2_eq] at *
  rw [h2, Go.IntKind.wrap_u64]
  generalize (2 ^ r : Nat) = x at *
  omega
theorem setm_ok {f : F} (h : f.ok) (m : Nat) : (setm f m).ok := by
  intro i; unfold setm; split
  · exact or_lt _ _ (h i) (pow_lt _ (Nat.mod_lt _ (by decide)))
  · exact h i
theorem add_ok {f : F} (h : f.ok) (c : C) : (add f c).ok := setm_ok (setm_ok (setm_ok h _) _) _
theorem of_ok {f : F} (h : f.ok) (l : List C) : (of f l).ok := by
  induction l generalizing f with
  | nil => exact h
  | cons c l ih => exact ih (add_ok h c)
theorem of_snoc (f : F) (l : List C) (c : C) : of f (l ++ [c]) = add (of f l) c := fold_snoc add f l c
theorem arr_set4 (f g : F) : ((((arr f).setIfInBounds 0 (.int .u64 (g 0 : Nat))).setIfInBounds 1 (.int .u64 (g 1 : Nat))).setIfInBounds 2 (.int .u64 (g 2 : Nat))).setIfInBounds 3 (.int .u64 (g 3 : Nat)) = arr g := rfl
theorem union_ok {a b : F} (ha : a.ok) (hb : b.ok) : (union a b).ok := fun i => or_lt _ _ (ha i) (hb i)
theorem none_ok : none.ok := fun _ => by unfold none; decide
theorem hasm_eq (f : F) (m : Nat) : hasm f m = (f (m / 64) / 2 ^ (m % 64) % 2 == 1) := by
  unfold hasm; rw [Nat.testBit_eq_decide_div_mod_eq]; rfl
/-- a mark that is not there is put there by a sum -/
theorem or_sum (x k : Nat) (h : x.testBit k = false) : x ||| 2 ^ k = x + 2 ^ k := by
  have e1 : (x ||| 2 ^ k) / 2 ^ k = (x / 2 ^ k) ||| (2 ^ k / 2 ^ k) := Nat.or_div_two_pow
  have e2 : (x ||| 2 ^ k) % 2 ^ k = (x % 2 ^ k) ||| (2 ^ k % 2 ^ k) := Nat.or_mod_two_pow
  have hp : 0 < 2 ^ k := Nat.two_pow_pos k
  rw [Nat.div_self hp] at e1
  rw [Nat.mod_self, Nat.or_zero] at e2
  rw [Nat.testBit_eq_decide_div_mod_eq] at h
  have h2 : x / 2 ^ k % 2 ^ 1 = 0 := by simp at h; omega
  rw [Go.nat_join 1 (x / 2 ^ k) 1 h2 (by decide)] at e1
  have d1 := Nat.div_add_mod (x ||| 2 ^ k) (2 ^ k)
  have d2 := Nat.div_add_mod x (2 ^ k)
  rw [e1, e2, Nat.mul_add] at d1
  omega
theorem setm_of (f : F) (m : Nat) (h : hasm f m = true) : setm f m = f := by
  funext i; unfold setm; split
  · rename_i e; subst e
    unfold hasm at h
    apply Nat.eq_of_testBit_eq; intro j
    rw [Nat.testBit_or, Nat.testBit_two_pow]
    by_cases hj : m % 64 = j
    · subst hj; simp [h]
    · simp [hj]
  · rfl
theorem hasm_set (f : F) (m : Nat) : hasm (setm f m) m = true := by
  unfold hasm setm; simp [Nat.testBit_or]
theorem hasm_mono (f : F) (m m' : Nat) (h : hasm f m = true) : hasm (setm f m') m = true := by
  unfold hasm setm at *; split <;> simp [Nat.testBit_or, h]
/-- are two filters the same? -/
def sameF (a b : F) : Bool := ((a 0 : Int) == (b 0 : Int) && ((a 1 : Int) == (b 1 : Int) && ((a 2 : Int) == (b 2 : Int) && (a 3 : Int) == (b 3 : Int))))
theorem sameF_iff (a b : F) : sameF a b = true ↔ (a 0 = b 0 ∧ a 1 = b 1 ∧ a 2 = b 2 ∧ a 3 = b 3) := by
  unfold sameF; simp only [Bool.and_eq_true, beq_iff_eq]; omega
theorem sameF_at {a b : F} (h : sameF a b = true) (q : Nat) (hq : q < 4) : a q = b q := by
  obtain ⟨h0, h1, h2, h3⟩ := (sameF_iff a b).1 h
  match q, hq with
  | 0, _ => exact h0
  | 1, _ => exact h1
  | 2, _ => exact h2
  | 3, _ => exact h3
theorem mark0_lt (c : C) : mark0 c < 256 := Nat.mod_lt _ (by decide)
theorem mark1_lt (c : C) : mark1 c < 256 := Nat.mod_lt _ (by decide)
theorem mark2_lt (c : C) : mark2 c < 256 := Nat.mod_lt _ (by decide)
theorem add_has (f : F) (c : C) : hasm (add f c) (mark0 c) = true ∧ hasm (add f c) (mark1 c) = true ∧ hasm (add f c) (mark2 c) = true :=
  ⟨hasm_mono _ _ _ (hasm_mono _ _ _ (hasm_set f _)), hasm_mono _ _ _ (hasm_set _ _), hasm_set _ _⟩
theorem may_iff (f : F) (c : C) : may f c = true ↔ (hasm f (mark0 c) = true ∧ hasm f (mark1 c) = true ∧ hasm f (mark2 c) = true) := by
  unfold may; simp only [Bool.and_eq_true, and_assoc]
theorem add_of_may (f : F) (c : C) (h : may f c = true) : add f c = f := by
  obtain ⟨h0, h1, h2⟩ := (may_iff f c).1 h
  unfold add; rw [setm_of f _ h0, setm_of f _ h1, setm_of f _ h2]
theorem same_add (f : F) (c : C) : sameF (add f c) f = may f c := by
  rw [Bool.eq_iff_iff]
  constructor
  · intro h
    obtain ⟨h0, h1, h2⟩ := add_has f c
    refine (may_iff f c).2 ⟨?_, ?_, ?_⟩
    · unfold hasm at *; rw [← sameF_at h _ (by have := mark0_lt c; omega)]; exact h0
    · unfold hasm at *; rw [← sameF_at h _ (by have := mark1_lt c; omega)]; exact h1
    · unfold hasm at *; rw [← sameF_at h _ (by have := mark2_lt c; omega)]; exact h2
  · intro h
    rw [add_of_may f c h]
    exact (sameF_iff f f).2 ⟨rfl, rfl, rfl, rfl⟩
/-- what was added may be there, whatever comes behind -/
theorem may_add (f : F) (c : C) : may (add f c) c = true := (may_iff _ _).2 (add_has f c)
theorem has_add (f : F) (c : C) (m : Nat) (h : hasm f m = true) : hasm (add f c) m = true := hasm_mono _ _ _ (hasm_mono _ _ _ (hasm_mono _ _ _ h))
theorem has_of (f : F) (l : List C) (m : Nat) (h : hasm f m = true) : hasm (of f l) m = true := by
  induction l generalizing f with
  | nil => exact h
  | cons c l ih => exact ih (add f c) (has_add f c m h)
theorem may_of (f : F) (l : List C) (c : C) (h : may f c = true) : may (of f l) c = true := by
  obtain ⟨h0, h1, h2⟩ := (may_iff f c).1 h
  exact (may_iff _ _).2 ⟨has_of _ _ _ h0, has_of _ _ _ h1, has_of _ _ _ h2⟩
theorem of_app (f : F) (l m : List C) : of f (l ++ m) = of (of f l) m := fold_app add f l m
theorem may_in (f : F) (l m : List C) (c : C) : may (of f (l ++ [c] ++ m)) c = true := by
  rw [of_app, of_snoc]; exact may_of _ _ _ (may_add _ _)
/-! ### union -/
theorem union_comm (a b : F) : union a b = union b a := by funext i; exact Nat.or_comm _ _
theorem union_none (a : F) : union a none = a := by funext i; exact Nat.or_zero _
theorem union_self_l (a b : F) : union (union a b) a = union a b := by
  funext i; unfold union; apply Nat.eq_of_testBit_eq; intro j; simp only [Nat.testBit_or]; cases (a i).testBit j <;> cases (b i).testBit j <;> rfl
theorem union_setm (a b : F) (m : Nat) : union a (setm b m) = setm (union a b) m := by
  funext i; unfold union setm; split
  · exact (Nat.or_assoc _ _ _).symm
  · rfl
theorem union_add (a b : F) (c : C) : union a (add b c) = add (union a b) c := by unfold add; rw [union_setm, union_setm, union_setm]
theorem union_of (a b : F) (l : List C) : union a (of b l) = of (union a b) l := by
  induction l generalizing b with
  | nil => rfl
  | cons c l ih => exact (ih (add b c)).trans (by rw [union_add]; rfl)
theorem union_lists (l m : List C) : union (of none l) (of none m) = of none (l ++ m) := by rw [union_of, union_none, of_app]
theorem may_union_l (a b : F) (c : C) (h : may a c = true) : may (union a b) c = true := by
  obtain ⟨h0, h1, h2⟩ := (may_iff a c).1 h
  have k : ∀ m, hasm a m = true → hasm (union a b) m = true := fun m h => by unfold hasm union at *; rw [Nat.testBit_or, h]; rfl
  exact (may_iff _ _).2 ⟨k _ h0, k _ h1, k _ h2⟩
end Bloom
end Hy
end
section
namespace Go.Proofs.Ytpheegfanljeeaa
open Go.RowKit Hy

theorem bl_oneByte_any (k : Int) (w : World) :
    Calls Try.prog 132 #[.int .i64 k] w fun e w' => e = .returned (.string ⟨#[Bloom.kb k]⟩) ∧ Ext w w' := by
  have h0 : 0 ≤ k % 256 := by omega
  have h1 : k % 256 < 256 := by omega
  have hcv := run_str1 (P := Try.prog) Try.underlying147 Try.underlying5 Try.underlying9 (k % 256).toNat (by omega)
  have e1 : ((k % 256).toNat : Int) = k % 256 := by omega
  rw [e1] at hcv
  have e2 : UInt8.ofNat (k % 256).toNat = Bloom.kb k := rfl
  rw [e2] at hcv
  clear e1 e2
  go_enter Try.func132, Try.ntmps132
  go_wp2
  go_returns
  exact ⟨rfl, (ext_refl _).new _⟩

set_option maxHeartbeats 400000 in
theorem bl_bigBytes_any (n k : Nat) (w : World) (hn : n < 18446744073709551616) (hk : k ≤ 100) :
    Calls Try.prog 133 #[.int .u64 n, .int .i64 k] w fun e w' => e = .returned (.string ⟨(Bloom.be n k).toArray⟩) ∧ Ext w w' := by
  go_enter Try.func133, Try.ntmps133
  go_wp2
  go_loopw [5, 0, 6] (fun a b c wr => ∃ (i m : Nat) (s : ByteArray), i ≤ k ∧ c = .int .i64 i ∧ b = .int .u64 m ∧ a = .string s ∧ m < 18446744073709551616 ∧ s.size ≤ 100 ∧ Hid (m = n / 256 ^ i ∧ s = ⟨(Bloom.be n i).toArray⟩) ∧ Ext w wr)
    (fun _ _ c _ => k - (intOf c).toNat)
  case atStart => exact ⟨0, n, _, Nat.zero_le _, rfl, rfl, rfl, hn, by decide, ⟨by simp, rfl⟩, ext_refl _⟩
  case round =>
    obtain ⟨i, m, s, hi, rfl, rfl, rfl, hm, hs, HH, B⟩ := hrel
    by_cases hlt : i < k
    · go_wp2_with (go_at_call 132; refine (bl_oneByte_any _ _).mono ?_; rintro e w2 ⟨rfl, b2⟩)
      go_roundw
      case rel =>
        obtain ⟨h1, h2⟩ := HH.out
        have hb : Bloom.kb ((m : Int) % 256) = UInt8.ofNat m := by
          unfold Bloom.kb; apply UInt8.toNat_inj.1; simp; omega
        have hl : s.size = i := by rw [h2]; exact Bloom.be_length n i
        refine ⟨i + 1, m / 256, _, by omega, by go_num, by go_num, rfl, by omega, ?_, ⟨?_, ?_⟩, B.then b2⟩
        · rw [ByteArray.size_append, hl]; show 1 + i ≤ 100; omega
        · rw [h1, Nat.pow_succ, Nat.div_div_eq_div_mul]
        · rw [hb, Bloom.be_cons, h2, h1]
          apply ByteArray.ext; simp
      case measure => simp [intOf]; omega
    · have e : i = k := by omega
      subst e
      go_wp2
      go_returns
      refine ⟨?_, B⟩
      rw [HH.out.2]; rfl

theorem xor_fact (h : Nat) (u : UInt8) (hh : h < 18446744073709551616) : bits BinOp.xor IntKind.u64 (h : Int) (u.toNat : Int) = ((h ^^^ u.toNat : Nat) : Int) :=
  bits_xor_u64_nat _ _ hh (by have := u.toNat_lt; omega)
set_option maxHeartbeats 400000 in
theorem hash8_any (h : Nat) (l : List UInt8) (n : Nat) (A : Option Addr) (c : Nat) (w : World) (hh : h < 18446744073709551616) (hn : l.length = n) (hl : n ≤ 140737488351232) (hr : Rd w A (l.map fun u => Value.int .u8 u.toNat)) :
    Calls Try.prog 118 #[.int .u64 h, .slice A n c] w fun e w' => e = .returned (.int .u64 (Bloom.fnv h l)) ∧ w = w' := by
  subst hn
  have HR : Hid (Rd w A (l.map fun u => Value.int .u8 u.toNat)) := hr
  clear hr
  go_enter Try.func118, Try.ntmps118
  go_wp2
  go_loop [0, 9] (fun a b => ∃ (k x : Nat), k ≤ l.length ∧ b = .int .i64 k ∧ a = .int .u64 x ∧ x < 18446744073709551616 ∧ Hid (x = Bloom.fnv h (l.take k)))
    (fun _ b => l.length - (intOf b).toNat)
  case atStart => exact ⟨0, h, Nat.zero_le _, rfl, rfl, hh, rfl⟩
  case round =>
    obtain ⟨k, x, hk, rfl, rfl, hx, HX⟩ := hrel
    by_cases hlt : k < l.length
    · obtain ⟨b, o, rfl, hb, hc⟩ := HR.out (by simpa using Nat.lt_of_le_of_lt (Nat.zero_le _) hlt)
      have hcell : w.cell? ⟨b, o + k, none⟩ = some (.int .u8 l[k].toNat) := hc k _ (by simp [hlt])
      clear hc hb HR
      have HS : Hid (Bloom.fnv h (l.take (k + 1)) = Bloom.step x l[k]) := by
        rw [HX.out, List.take_succ_eq_append_getElem hlt, Bloom.fnv_snoc]; rfl
      generalize hu : l[k] = u at *
      clear hu
      have hu := u.toNat_lt
      have hb := xor_fact x u hx
      go_wp2
      go_round
      case rel => exact ⟨k + 1, Bloom.step x u, by omega, by go_num, by rw [Bloom.step_int], Bloom.step_lt _ _, HS.out.symm⟩
      case measure => simp [intOf]; omega
    · go_wp2
      go_returns
      refine ⟨ret_int ?_, rfl⟩
      rw [HX.out, List.take_of_length_le (by omega)]

set_option maxHeartbeats 400000 in
theorem hash64_one (h : Nat) (x : Int) (g : Nat) (w : World) (hh : h < 18446744073709551616) (hx0 : 0 ≤ x) (hx : x < 18446744073709551616) (hc : w.cell? ⟨g, 0, none⟩ = some (.int .u64 x)) :
    Calls Try.prog 119 #[.int .u64 h, .slice (some ⟨g, 0, none⟩) 1 1] w fun e w' => e = .returned (.int .u64 (Bloom.step h (UInt8.ofNat x.toNat))) ∧ w = w' := by
  have hb := xor_fact h (UInt8.ofNat x.toNat) hh
  rw [show (((UInt8.ofNat x.toNat).toNat : Nat) : Int) = x % 256 from by simp; omega] at hb
  have HS := hid (Bloom.step_int h (UInt8.ofNat x.toNat))
  generalize Bloom.step h (UInt8.ofNat x.toNat) = r at *
  generalize h ^^^ (UInt8.ofNat x.toNat).toNat = y at *
  go_enter Try.func119, Try.ntmps119
  go_wp2
  refine wp_loop_rounds 2 ?_
  repeat any_goals (rw [rounds_succ]; go_wp2)
  go_returns
  exact ⟨ret_int HS.out, rfl⟩

theorem hash8_one (h : Nat) (x : Nat) (u : UInt8) (g : Nat) (w : World) (hh : h < 18446744073709551616) (hc : w.cell? ⟨g, 0, none⟩ = some (.int .u8 x)) (hu : x = u.toNat) :
    Calls Try.prog 118 #[.int .u64 h, .slice (some ⟨g, 0, none⟩) 1 1] w fun e w' => e = .returned (.int .u64 (Bloom.step h u)) ∧ w = w' := by
  subst hu
  have := hash8_any h [u] 1 (some ⟨g, 0, none⟩) 1 w hh rfl (by simp) (rd_one hc)
  rw [Bloom.fnv_one] at this
  exact this
theorem hash8_start (x : Nat) (u : UInt8) (g : Nat) (w : World) (hc : w.cell? ⟨g, 0, none⟩ = some (.int .u8 x)) (hu : x = u.toNat) :
    Calls Try.prog 118 #[.int .u64 14695981039346656037, .slice (some ⟨g, 0, none⟩) 1 1] w fun e w' => e = .returned (.int .u64 (Bloom.step Bloom.start u)) ∧ w = w' := by
  have := hash8_one Bloom.start x u g w Bloom.start_lt hc hu
  rw [Bloom.start_int] at this
  exact this

set_option maxHeartbeats 1000000 in
theorem hash_any (k : Int) (n : Nat) (s : ByteArray) (w : World) (h3 : n < 18446744073709551616) (h4 : s.size ≤ 140737488351232) :
    Calls Try.prog 98 #[.agg #[.int .i64 k, .int .u64 n, .string s]] w fun e w' => e = .returned (.int .u64 (Bloom.hash ⟨k, n, s⟩)) ∧ Ext w w' := by
  obtain ⟨x, hx⟩ : ∃ x : Nat, (x : Int) = k % 256 := ⟨(k % 256).toNat, by omega⟩
  have HK : Hid (x = (Bloom.kb k).toNat) := by
    unfold Hid Bloom.kb; simp; omega
  have hx' := hx.symm
  clear hx
  have hlt : Bloom.step Bloom.start (Bloom.kb k) < 18446744073709551616 := Bloom.step_lt _ _
  have HE : Hid (Bloom.fnv Bloom.start (Bloom.bytes ⟨k, n, s⟩) = Bloom.fnv (Bloom.fnv (Bloom.step Bloom.start (Bloom.kb k)) (Bloom.be n 8)) s.data.toList) := by
    unfold Bloom.bytes; rw [Bloom.fnv_cons, Bloom.fnv_append]; rfl
  have C1 := hid (fun g w hc => hash8_start x (Bloom.kb k) g w hc HK.out)
  generalize Bloom.step Bloom.start (Bloom.kb k) = H at *
  go_enter Try.func98, Try.ntmps98
  go_wp2_with fail
  refine (C1.out _ _ ?_).mono ?_
  · simp [go_sem]
  rintro e w1 ⟨rfl, rfl⟩
  go_wp2
  refine wp_loop_rounds 9 ?_
  rw [rounds_succ]
  go_wp2_with fail
  refine (hash64_one _ ((n : Int) / 72057594037927936) _ _ hlt ?_ ?_ ?_).mono ?_
  · omega
  · omega
  · simp [go_sem]
  rintro e w1 ⟨rfl, rfl⟩
  have hlt1 := Bloom.step_lt H (UInt8.ofNat (((n : Int) / 72057594037927936)).toNat)
  generalize hH1 : Bloom.step H (UInt8.ofNat (((n : Int) / 72057594037927936)).toNat) = H1 at *
  replace hH1 := hid hH1
  clear hlt
  go_wp2_with fail
  rw [rounds_succ]
  go_wp2_with fail
  refine (hash64_one _ ((n : Int) / 281474976710656) _ _ hlt1 ?_ ?_ ?_).mono ?_
  · omega
  · omega
  · simp [go_sem]
  rintro e w1 ⟨rfl, rfl⟩
  have hlt2 := Bloom.step_lt H1 (UInt8.ofNat (((n : Int) / 281474976710656)).toNat)
  generalize hH2 : Bloom.step H1 (UInt8.ofNat (((n : Int) / 281474976710656)).toNat) = H2 at *
  replace hH2 := hid hH2
  clear hlt1
  go_wp2_with fail
  rw [rounds_succ]
  go_wp2_with fail
  refine (hash64_one _ ((n : Int) / 1099511627776) _ _ hlt2 ?_ ?_ ?_).mono ?_
  · omega
  · omega
  · simp [go_sem]
  rintro e w1 ⟨rfl, rfl⟩
  have hlt3 := Bloom.step_lt H2 (UInt8.ofNat (((n : Int) / 1099511627776)).toNat)
  generalize hH3 : Bloom.step H2 (UInt8.ofNat (((n : Int) / 1099511627776)).toNat) = H3 at *
  replace hH3 := hid hH3
  clear hlt2
  go_wp2_with fail
  rw [rounds_succ]
  go_wp2_with fail
  refine (hash64_one _ ((n : Int) / 4294967296) _ _ hlt3 ?_ ?_ ?_).mono ?_
  · omega
  · omega
  · simp [go_sem]
  rintro e w1 ⟨rfl, rfl⟩
  have hlt4 := Bloom.step_lt H3 (UInt8.ofNat (((n : Int) / 4294967296)).toNat)
  generalize hH4 : Bloom.step H3 (UInt8.ofNat (((n : Int) / 4294967296)).toNat) = H4 at *
  replace hH4 := hid hH4
  clear hlt3
  go_wp2_with fail
  rw [rounds_succ]
  go_wp2_with fail
  refine (hash64_one _ ((n : Int) / 16777216) _ _ hlt4 ?_ ?_ ?_).mono ?_
  · omega
  · omega
  · simp [go_sem]
  rintro e w1 ⟨rfl, rfl⟩
  have hlt5 := Bloom.step_lt H4 (UInt8.ofNat (((n : Int) / 16777216)).toNat)
  generalize hH5 : Bloom.step H4 (UInt8.ofNat (((n : Int) / 16777216)).toNat) = H5 at *
  replace hH5 := hid hH5
  clear hlt4
  go_wp2_with fail
  rw [rounds_succ]
  go_wp2_with fail
  refine (hash64_one _ ((n : Int) / 65536) _ _ hlt5 ?_ ?_ ?_).mono ?_
  · omega
  · omega
  · simp [go_sem]
  rintro e w1 ⟨rfl, rfl⟩
  have hlt6 := Bloom.step_lt H5 (UInt8.ofNat (((n : Int) / 65536)).toNat)
  generalize hH6 : Bloom.step H5 (UInt8.ofNat (((n : Int) / 65536)).toNat) = H6 at *
  replace hH6 := hid hH6
  clear hlt5
  go_wp2_with fail
  rw [rounds_succ]
  go_wp2_with fail
  refine (hash64_one _ ((n : Int) / 256) _ _ hlt6 ?_ ?_ ?_).mono ?_
  · omega
  · omega
  · simp [go_sem]
  rintro e w1 ⟨rfl, rfl⟩
  have hlt7 := Bloom.step_lt H6 (UInt8.ofNat (((n : Int) / 256)).toNat)
  generalize hH7 : Bloom.step H6 (UInt8.ofNat (((n : Int) / 256)).toNat) = H7 at *
  replace hH7 := hid hH7
  clear hlt6
  go_wp2_with fail
  rw [rounds_succ]
  go_wp2_with fail
  refine (hash64_one _ (n : Int) _ _ hlt7 ?_ ?_ ?_).mono ?_
  · omega
  · omega
  · simp [go_sem]
  rintro e w1 ⟨rfl, rfl⟩
  have hlt8 := Bloom.step_lt H7 (UInt8.ofNat ((n : Int)).toNat)
  generalize hH8 : Bloom.step H7 (UInt8.ofNat ((n : Int)).toNat) = H8 at *
  replace hH8 := hid hH8
  clear hlt7
  go_wp2_with fail
  rw [rounds_succ]
  go_upto_region 6 with fail
  refine wp_gen (fun w' => Ext w w' ∧ w'.cell? ⟨w.heap.size, 2, none⟩ = some (.string s)) ⟨?_, ?_⟩ ?_
  · exact ((((((((((ext_refl _).new _).new _).new _).new _).new _).new _).new _).new _).new _).new _
  · simp [go_sem]
  rintro wz ⟨B, hcz⟩
  have kc := fun W : World => run_bytes_of_string (P := Try.prog) W 9 147 5 s Try.underlying9 Try.underlying147 Try.underlying5
  go_wp2_with fail
  refine (hash8_any H8 s.data.toList s.size _ _ _ hlt8 (by simp) h4 ?_).mono ?_
  · exact rd_bytes (w := wz.drew) rfl
  rintro e w1 ⟨rfl, rfl⟩
  go_wp2
  go_returns
  refine ⟨ret_int ?_, ?_⟩
  · unfold Bloom.hash
    rw [HE.out, Bloom.fnv8]
    have g1 := hH1.out; have g2 := hH2.out; have g3 := hH3.out; have g4 := hH4.out
    have g5 := hH5.out; have g6 := hH6.out; have g7 := hH7.out; have g8 := hH8.out
    clear kc hcz C1 HE
    subst g8 g7 g6 g5 g4 g3 g2 g1
    rfl
  · exact (B.draw).new _
end Go.Proofs.Ytpheegfanljeeaa
end
section
namespace Go.Proofs.Ytpheegfanljeeaa
open Go.RowKit Hy

set_option maxHeartbeats 400000 in
theorem hashOf_any (k : Int) (n : Nat) (s : ByteArray) (w : World) (h3 : n < 18446744073709551616) (h4 : s.size ≤ 140737488351232) :
    Calls Try.prog 128 #[.agg #[.int .i64 k, .int .u64 n, .string s]] w fun e w' => e = .returned (.int .u64 (Bloom.hash ⟨k, n, s⟩)) ∧ Ext w w' := by
  have G1 : Gives Try.prog 132 #[.int .i64 k] (.string ⟨#[Bloom.kb k]⟩) := fun w => bl_oneByte_any k w
  have G2 : Gives Try.prog 133 #[.int .u64 n, .int .i64 8] (.string ⟨(Bloom.be n 8).toArray⟩) := fun w => bl_bigBytes_any n 8 w h3 (by decide)
  obtain ⟨b8, hb8⟩ : ∃ b : ByteArray, b = ⟨(Bloom.be n 8).toArray⟩ := ⟨_, rfl⟩
  rw [← hb8] at G2
  have hs8 : b8.size = 8 := by rw [hb8]; exact Bloom.be_length n 8
  have hs8' : b8.size ≤ 8 := by omega
  clear hs8
  obtain ⟨X, hX⟩ : ∃ X, ByteArray.mk #[Bloom.kb k] ++ b8 ++ s = X := ⟨_, rfl⟩
  have HX : Hid (X.data.toList = Bloom.bytes ⟨k, n, s⟩ ∧ X.size ≤ 140737488351241) := by
    subst hX
    refine ⟨?_, ?_⟩
    · rw [hb8, app_list, app_list]; rfl
    · rw [ByteArray.size_append, ByteArray.size_append]; show 1 + b8.size + s.size ≤ _; omega
  clear hb8
  go_enter Try.func128, Try.ntmps128
  go_wp2
  refine wp_gen (fun w' => Ext w w' ∧ w'.cell? ⟨w.heap.size, 0, none⟩ = some (.int .i64 k) ∧ w'.cell? ⟨w.heap.size, 1, none⟩ = some (.int .u64 n) ∧ w'.cell? ⟨w.heap.size, 2, none⟩ = some (.string s)) ⟨(ext_refl _).new _, by simp [go_sem], by simp [go_sem], by simp [go_sem]⟩ ?_
  rintro wz ⟨B, c0, c1, c2⟩
  have k0 := cell_regrown c0
  have k1 := cell_regrown c1
  have k2 := cell_regrown c2
  refine wp_region_quiet_below (by kernel_rfl) (by kernel_rfl) ?_
  repeat (go_big_quiet_step ((first
    | (go_at_call 132; exact G1.quiet _ _ _)
    | (go_at_call 133; exact G2.quiet _ _ _))))
  refine wpQuiet_nil ?_
  intro w9 hw9
  obtain ⟨p, rfl⟩ := hw9
  have b9 := B.then (ext_regrown wz p)
  generalize Go.Sort.grow (redrawn wz p.d) p.os = w6 at *
  clear k0 k1 k2 c0 c1 c2 hX
  have hXs := HX.out.2
  go_wp2
  go_loop [6, 4, 5] (fun lo hh i => ∃ (j x : Nat), j ≤ X.size ∧ i = .int .i64 j ∧ hh = .int .u64 x ∧ x < 18446744073709551616 ∧ Hid (x = Bloom.fnv Bloom.start (X.data.toList.take j)))
    (fun _ _ i => X.size - (intOf i).toNat)
  case atStart => exact ⟨0, Bloom.start, Nat.zero_le _, rfl, by rw [Bloom.start_int], Bloom.start_lt, rfl⟩
  case round =>
    obtain ⟨j, x, hj, rfl, rfl, hx, HXX⟩ := hrel
    by_cases hlt : j < X.size
    · have HS : Hid (Bloom.fnv Bloom.start (X.data.toList.take (j + 1)) = Bloom.step x X[j]) := by
        rw [HXX.out, take_snoc X j hlt, Bloom.fnv_snoc]; rfl
      generalize hu : X[j] = u at *
      have hu256 := u.toNat_lt
      have hb := i64_xor_nat (x % 256) u.toNat (by omega) (by omega)
      have hy : (x % 256 ^^^ u.toNat) < 256 := Nat.xor_lt_two_pow (n := 8) (by omega) (by omega)
      have HY : Hid (x - x % 256 + ((x % 256) ^^^ u.toNat) = x ^^^ u.toNat) := Bloom.xor_low x u.toNat (by omega)
      generalize (x % 256 ^^^ u.toNat) = y at *
      rw [show ((x % 256 : Nat) : Int) = (x : Int) % 256 from rfl] at hb
      go_wp2
      go_round
      case rel =>
        refine ⟨j + 1, Bloom.step x u, by omega, by go_num, ?_, Bloom.step_lt _ _, HS.out.symm⟩
        rw [← Bloom.step_int, ← HY.out]
        congr 2
        omega
      case measure => simp [intOf]; omega
    · go_wp2
      go_returns
      refine ⟨ret_int ?_, b9⟩
      rw [HXX.out, show j = X.size from by omega, take_all, HX.out.1]; rfl
end Go.Proofs.Ytpheegfanljeeaa
end
section
namespace Go.Proofs.Ytpheegfanljeeaa
open Go.RowKit Hy

/-- a new list of three numbers -/
def Slice3 (a b c : Nat) (w : World) (e : Ending) (w' : World) : Prop :=
  ∃ g : Nat, e = .returned (.slice (some ⟨g, 0, none⟩) 3 3) ∧ Blk w' g 3 #[.int .i64 a, .int .i64 b, .int .i64 c] ∧ Ext w w'

set_option maxHeartbeats 400000 in
theorem bl_pow2_any (k : Nat) (w : World) (hk : k < 64) :
    Calls Try.prog 129 #[.int .i64 k] w fun e w' => e = .returned (.int .u64 (Bloom.p2 k)) ∧ w = w' := by
  go_enter Try.func129, Try.ntmps129
  go_wp2
  go_loop [3, 4] (fun a b => ∃ (i x : Nat), i ≤ k ∧ b = .int .i64 i ∧ a = .int .u64 x ∧ x < 18446744073709551616 ∧ (i < k → x < 9223372036854775808) ∧ Hid (x = Bloom.p2 i))
    (fun _ b => k - (intOf b).toNat)
  case atStart => exact ⟨0, 1, Nat.zero_le _, rfl, rfl, by omega, by omega, by rw [Hid, Bloom.p2_eq]⟩
  case round =>
    obtain ⟨i, x, hi, rfl, rfl, hx, hx2, HX⟩ := hrel
    by_cases hlt : i < k
    · have hx3 := hx2 hlt
      clear hx2
      have HP : Hid (Bloom.p2 (i + 1) = x * 2 ∧ (i + 1 < k → x * 2 < 9223372036854775808)) := by
        refine ⟨by rw [Bloom.p2_succ, HX.out], fun h => ?_⟩
        have h1 : 2 ^ (i + 1) < 2 ^ 63 := Nat.pow_lt_pow_right (by decide) (by omega)
        have h2 := Bloom.p2_succ i
        rw [Bloom.p2_eq (i + 1), ← HX.out] at h2
        omega
      go_wp2
      go_round
      case rel => exact ⟨i + 1, x * 2, by omega, by go_num, by go_num, by omega, HP.out.2, HP.out.1.symm⟩
      case measure => simp [intOf]; omega
    · have e : i = k := by omega
      subst e
      go_wp2
      go_returns
      exact ⟨ret_int (by rw [HX.out]), rfl⟩

set_option maxHeartbeats 400000 in
theorem hasMark_any (f : Bloom.F) (i : Nat) (w : World) (hf : f.ok) (hi : i < 256) :
    Calls Try.prog 117 #[.agg #[.int .u64 (f 0), .int .u64 (f 1), .int .u64 (f 2), .int .u64 (f 3)], .int .i64 i] w fun e w' => e = .returned (.bool (Bloom.hasm f i)) ∧ Ext w w' := by
  have G : Gives Try.prog 129 #[.int .i64 ((i : Int) % 64)] (.int .u64 (Bloom.p2 (i % 64))) := fun w =>
    (bl_pow2_any (i % 64) w (by omega)).mono fun e w' ⟨he, hw⟩ => ⟨he, by subst hw; exact ext_refl _⟩
  have hp1 := Bloom.p2_pos (i % 64)
  have hp2 := Bloom.p2_lt (i % 64) (by omega)
  have HE : Hid (Bloom.hasm f i = ((f (i / 64) : Int) / (Bloom.p2 (i % 64) : Int) % 2 == 1)) := by
    rw [Hid, Bloom.hasm_eq, Bloom.p2_eq, Bool.eq_iff_iff]; simp only [beq_iff_eq]; rw [← Int.natCast_ediv]; omega
  generalize Bloom.p2 (i % 64) = P at *
  have hq := hf (i / 64)
  obtain ⟨d0, d1⟩ := div_bd (f (i / 64)) P 18446744073709551616 (by omega)
  have q0 : (0 : Int) ≤ (i : Int) / 64 := by omega
  have q1 : (i : Int) / 64 < 4 := by omega
  have q2 : ((i : Int) / 64).toNat = i / 64 := by omega
  go_enter Try.func117, Try.ntmps117
  go_wp2
  refine wp_gen (fun w' => Ext w w' ∧ w'.cell? ⟨w.heap.size, i / 64, none⟩ = some (.int .u64 (f (i / 64)))) ⟨(ext_refl _).new _, ?_⟩ ?_
  · exact ((Blk.new w 48 (Bloom.arr f)).cell (i / 64)).trans (Bloom.arr_get f _ (by omega))
  rintro wz ⟨B, c0⟩
  have k0 := cell_regrown c0
  refine wp_region_quiet_below (by kernel_rfl) (by kernel_rfl) ?_
  repeat (go_big_quiet_step ((go_at_call 129; exact G.quiet _ _ _)))
  refine wpQuiet_nil ?_
  intro w9 hw9
  obtain ⟨p, rfl⟩ := hw9
  go_wp2
  go_returns
  exact ⟨ret_bool (by rw [HE.out]), B.then (ext_regrown wz p)⟩

set_option maxHeartbeats 400000 in
theorem bl_marks_any (k : Int) (n : Nat) (s : ByteArray) (w : World) (h3 : n < 18446744073709551616) (h4 : s.size ≤ 140737488351232) :
    Calls Try.prog 85 #[.agg #[.int .i64 k, .int .u64 n, .string s]] w fun e w' => e = .returned (.agg #[.int .u8 (Bloom.mark0 ⟨k, n, s⟩), .int .u8 (Bloom.mark1 ⟨k, n, s⟩), .int .u8 (Bloom.mark2 ⟨k, n, s⟩)]) ∧ Ext w w' := by
  have G : Gives Try.prog 98 #[.agg #[.int .i64 k, .int .u64 n, .string s]] (.int .u64 (Bloom.hash ⟨k, n, s⟩)) := fun w => hash_any k n s w h3 h4
  have hl := Bloom.hash_lt ⟨k, n, s⟩
  have HM : Hid (Bloom.mark0 ⟨k, n, s⟩ = Bloom.hash ⟨k, n, s⟩ % 256 ∧ Bloom.mark1 ⟨k, n, s⟩ = Bloom.hash ⟨k, n, s⟩ / 1048576 % 256 ∧ Bloom.mark2 ⟨k, n, s⟩ = Bloom.hash ⟨k, n, s⟩ / 1099511627776 % 256) := ⟨rfl, rfl, rfl⟩
  generalize Bloom.hash ⟨k, n, s⟩ = h at *
  go_enter Try.func85, Try.ntmps85
  go_upto_region 1 with fail
  refine wp_gen (fun w' => Ext w w' ∧ Blk w' w.heap.size 37 #[.int .i64 k, .int .u64 n, .string s] ∧ Blk w' (w.heap.size + 1) 114 #[.int .u8 0, .int .u8 0, .int .u8 0]) ⟨((ext_refl _).new _).new _, (Blk.new _ _ _).alloc _, by simpa using Blk.new (w.alloc _) 114 #[.int .u8 0, .int .u8 0, .int .u8 0]⟩ ?_
  rintro wz ⟨B, B1, B2⟩
  have c0 := B1.cell 0
  have c1 := B1.cell 1
  have c2 := B1.cell 2
  go_wp2_with (go_at_call 98; refine (G _).mono ?_; rintro e w2 ⟨rfl, b2⟩; have B3 := B2.keep b2; have e0 := B3.cell 0; have e1 := B3.cell 1; have e2 := B3.cell 2; have f0 := B3.frozen 0; have f1 := B3.frozen 1; have f2 := B3.frozen 2)
  obtain ⟨m0, m1, m2⟩ := HM.out
  have hz := B.size
  have hz2 : w.heap.size ≤ w.heap.size + 1 := by omega
  refine bodyPost_ret (v := .agg #[.int .u8 ((h : Int) % 256), .int .u8 ((h : Int) / 1048576 % 256), .int .u8 ((h : Int) / 1099511627776 % 256)]) (by simp [results, Try.results85, go_sem, e0, e1, e2]) rfl ⟨?_, ?_⟩
  · rw [m0, m1, m2]; rfl
  · exact (((B.then b2).put hz2 _).put hz2 _).put hz2 _

set_option maxHeartbeats 400000 in
theorem marksAt_any (k : Int) (n : Nat) (s : ByteArray) (w : World) (h3 : n < 18446744073709551616) (h4 : s.size ≤ 140737488351232) :
    Calls Try.prog 116 #[.agg #[.int .i64 k, .int .u64 n, .string s]] w (Slice3 (Bloom.mark0 ⟨k, n, s⟩) (Bloom.mark1 ⟨k, n, s⟩) (Bloom.mark2 ⟨k, n, s⟩) w) := by
  have G : Gives Try.prog 128 #[.agg #[.int .i64 k, .int .u64 n, .string s]] (.int .u64 (Bloom.hash ⟨k, n, s⟩)) := fun w => hashOf_any k n s w h3 h4
  have hl := Bloom.hash_lt ⟨k, n, s⟩
  have HM : Hid (Bloom.mark0 ⟨k, n, s⟩ = Bloom.hash ⟨k, n, s⟩ % 256 ∧ Bloom.mark1 ⟨k, n, s⟩ = Bloom.hash ⟨k, n, s⟩ / 1048576 % 256 ∧ Bloom.mark2 ⟨k, n, s⟩ = Bloom.hash ⟨k, n, s⟩ / 1099511627776 % 256) := ⟨rfl, rfl, rfl⟩
  generalize Bloom.hash ⟨k, n, s⟩ = h at *
  go_enter Try.func116, Try.ntmps116
  go_wp2_with (go_at_call 128; refine (G _).mono ?_; rintro e w2 ⟨rfl, b2⟩)
  go_returns
  obtain ⟨m0, m1, m2⟩ := HM.out
  refine ⟨w2.heap.size, rfl, ?_, ((((ext_refl _).new _).then b2).new _)⟩
  rw [m0, m1, m2]
  exact Blk.new w2 3 _

end Go.Proofs.Ytpheegfanljeeaa
end
section
namespace Go.Proofs.Ytpheegfanljeeaa
open Go.RowKit Hy

set_option maxHeartbeats 1000000 in
theorem with_any (f : Bloom.F) (k : Int) (n : Nat) (s : ByteArray) (w : World) (hf : f.ok) (h3 : n < 18446744073709551616) (h4 : s.size ≤ 140737488351232) :
    Calls Try.prog 56 #[.agg #[.int .u64 (f 0), .int .u64 (f 1), .int .u64 (f 2), .int .u64 (f 3)], .agg #[.int .i64 k, .int .u64 n, .string s]] w fun e w' =>
      e = .returned (.agg #[.int .u64 (Bloom.add f ⟨k, n, s⟩ 0), .int .u64 (Bloom.add f ⟨k, n, s⟩ 1), .int .u64 (Bloom.add f ⟨k, n, s⟩ 2), .int .u64 (Bloom.add f ⟨k, n, s⟩ 3)]) ∧ Ext w w' := by
  have G : Gives Try.prog 85 #[.agg #[.int .i64 k, .int .u64 n, .string s]] _ := fun w => bl_marks_any k n s w h3 h4
  have HA : Hid (Bloom.add f ⟨k, n, s⟩ = Bloom.setm (Bloom.setm (Bloom.setm f (Bloom.mark0 ⟨k, n, s⟩)) (Bloom.mark1 ⟨k, n, s⟩)) (Bloom.mark2 ⟨k, n, s⟩)) := rfl
  have l0 : Bloom.mark0 ⟨k, n, s⟩ < 256 := Nat.mod_lt _ (by decide)
  have l1 : Bloom.mark1 ⟨k, n, s⟩ < 256 := Nat.mod_lt _ (by decide)
  have l2 : Bloom.mark2 ⟨k, n, s⟩ < 256 := Nat.mod_lt _ (by decide)
  generalize Bloom.mark0 ⟨k, n, s⟩ = m0 at *
  generalize Bloom.mark1 ⟨k, n, s⟩ = m1 at *
  generalize Bloom.mark2 ⟨k, n, s⟩ = m2 at *
  have i0 : ∀ w, (Instr.index 114 (.agg #[.int .u8 (m0 : Nat), .int .u8 (m1 : Nat), .int .u8 (m2 : Nat)]) (.int .i64 0)).run Try.prog w = .ok (.int .u8 (m0 : Nat)) w := fun _ => by kernel_rfl
  have i1 : ∀ w, (Instr.index 114 (.agg #[.int .u8 (m0 : Nat), .int .u8 (m1 : Nat), .int .u8 (m2 : Nat)]) (.int .i64 1)).run Try.prog w = .ok (.int .u8 (m1 : Nat)) w := fun _ => by kernel_rfl
  have i2 : ∀ w, (Instr.index 114 (.agg #[.int .u8 (m0 : Nat), .int .u8 (m1 : Nat), .int .u8 (m2 : Nat)]) (.int .i64 2)).run Try.prog w = .ok (.int .u8 (m2 : Nat)) w := fun _ => by kernel_rfl
  go_enter Try.func56, Try.ntmps56
  go_upto_region 1 with fail
  refine wp_gen (fun w' => Ext w w' ∧ Blk w' w.heap.size 86 (Bloom.arr f) ∧ Blk w' (w.heap.size + 1) 37 #[.int .i64 k, .int .u64 n, .string s] ∧ Blk w' (w.heap.size + 2) 86 #[.int .u64 0, .int .u64 0, .int .u64 0, .int .u64 0])
    ⟨(((ext_refl _).new _).new _).new _, ((Blk.new _ _ _).alloc _).alloc _, Blk.alloc (by simpa using Blk.new (w.alloc _) 37 _) _, by simpa using Blk.new ((w.alloc _).alloc _) 86 #[.int .u64 0, .int .u64 0, .int .u64 0, .int .u64 0]⟩ ?_
  rintro wz ⟨B, B1, B2, B3⟩
  have c0 := B2.cell 0
  have c1 := B2.cell 1
  have c2 := B2.cell 2
  go_wp2_with (go_at_call 85; refine (G _).mono ?_; rintro e w2 ⟨rfl, b2⟩; replace B := B.then b2; replace B1 := B1.keep b2; replace B3 := B3.keep b2)
  clear c0 c1 c2 B2
  refine wp_loop_rounds 4 ?_
  rw [rounds_succ]
  have g0 := hf (m0 / 64)
  have r0 := Bloom.shl_p2 (m0 % 64) (by omega)
  have o0 := bits_or_u64_nat (f (m0 / 64)) (Bloom.p2 (m0 % 64)) (by omega) (Bloom.p2_lt _ (by omega))
  have c0 := (B1.cell (m0 / 64)).trans (Bloom.arr_get f (m0 / 64) (by omega))
  have f0 := B1.frozen (m0 / 64)
  go_wp2
  rw [rounds_succ]
  refine wp_gen (fun w' => Ext w w' ∧ Blk w' w.heap.size 86 (Bloom.arr (Bloom.setm f m0)) ∧ Blk w' (w.heap.size + 2) 86 #[.int .u64 0, .int .u64 0, .int .u64 0, .int .u64 0])
    ⟨B.put (Nat.le_refl _) _, by rw [Bloom.setm_upd, ← Bloom.arr_set _ _ _ (by omega)]; exact B1.set _ _, B3.far (by simp) _⟩ ?_
  clear c0 f0 r0 o0 g0 B B1 B3 i0
  rintro w1 ⟨B, B1, B3⟩
  have hf1 := Bloom.setm_ok hf m0
  generalize Bloom.setm f m0 = f1 at *
  have g1 := hf1 (m1 / 64)
  have r1 := Bloom.shl_p2 (m1 % 64) (by omega)
  have o1 := bits_or_u64_nat (f1 (m1 / 64)) (Bloom.p2 (m1 % 64)) (by omega) (Bloom.p2_lt _ (by omega))
  have c0 := (B1.cell (m1 / 64)).trans (Bloom.arr_get f1 (m1 / 64) (by omega))
  have f0 := B1.frozen (m1 / 64)
  go_wp2
  rw [rounds_succ]
  refine wp_gen (fun w' => Ext w w' ∧ Blk w' w.heap.size 86 (Bloom.arr (Bloom.setm f1 m1)) ∧ Blk w' (w.heap.size + 2) 86 #[.int .u64 0, .int .u64 0, .int .u64 0, .int .u64 0])
    ⟨B.put (Nat.le_refl _) _, by rw [Bloom.setm_upd, ← Bloom.arr_set _ _ _ (by omega)]; exact B1.set _ _, B3.far (by simp) _⟩ ?_
  clear c0 f0 r1 o1 g1 B B1 B3 i1
  rintro w2 ⟨B, B1, B3⟩
  have hf2 := Bloom.setm_ok hf1 m1
  generalize Bloom.setm f1 m1 = f2 at *
  have g2 := hf2 (m2 / 64)
  have r2 := Bloom.shl_p2 (m2 % 64) (by omega)
  have o2 := bits_or_u64_nat (f2 (m2 / 64)) (Bloom.p2 (m2 % 64)) (by omega) (Bloom.p2_lt _ (by omega))
  have c0 := (B1.cell (m2 / 64)).trans (Bloom.arr_get f2 (m2 / 64) (by omega))
  have f0 := B1.frozen (m2 / 64)
  go_wp2
  rw [rounds_succ]
  refine wp_gen (fun w' => Ext w w' ∧ Blk w' w.heap.size 86 (Bloom.arr (Bloom.setm f2 m2)) ∧ Blk w' (w.heap.size + 2) 86 #[.int .u64 0, .int .u64 0, .int .u64 0, .int .u64 0])
    ⟨B.put (Nat.le_refl _) _, by rw [Bloom.setm_upd, ← Bloom.arr_set _ _ _ (by omega)]; exact B1.set _ _, B3.far (by simp) _⟩ ?_
  clear c0 f0 r2 o2 g2 B B1 B3 i2
  rintro w3 ⟨B, B1, B3⟩
  have hf3 := Bloom.setm_ok hf2 m2
  generalize Bloom.setm f2 m2 = f3 at *
  have c0 := B1.cell 0
  have c1 := B1.cell 1
  have c2 := B1.cell 2
  have c3 := B1.cell 3
  have d0 := B3.cell 0
  have d1 := B3.cell 1
  have d2 := B3.cell 2
  have d3 := B3.cell 3
  have e0 := B3.frozen 0
  have e1 := B3.frozen 1
  have e2 := B3.frozen 2
  have e3 := B3.frozen 3
  unfold Bloom.arr at c0 c1 c2 c3
  have hz2 : w.heap.size ≤ w.heap.size + 2 := by omega
  go_wp2
  refine bodyPost_ret (v := .agg #[.int .u64 (f3 0), .int .u64 (f3 1), .int .u64 (f3 2), .int .u64 (f3 3)]) (by simp [results, Try.results56, go_sem, d0, d1, d2, d3]) rfl ⟨?_, ?_⟩
  · rw [HA.out]
  · exact (((B.put hz2 _).put hz2 _).put hz2 _).put hz2 _
end Go.Proofs.Ytpheegfanljeeaa
end
