/- Conditions: truth values and sets of them: walks. Conditions: what is known of a leaf: known: the walk (printed by gen_qpo.py). -/
import Derived.Test.YtpheegfanljeeaaQad
import Derived.Test.YtpheegfanljeeaaBfe
import Derived.Test.YtpheegfanljeeaaBff
import Derived.Test.YtpheegfanljeeaaStf
import Derived.Test.YtpheegfanljeeaaGho
section
namespace Hy.Cnd
open Go
/-- is a truth value in a set? -/
@[irreducible] def hs (x a : Nat) : Bool := x / 2 ^ a % 2 == 1
@[irreducible] def sb (o t : Nat) : Nat := if hs o t then o else o + 2 ^ t
/-- the set of no, unknown, yes -/
@[irreducible] def ms (n u y : Bool) : Nat := b2 n + 2 * b2 u + 4 * b2 y
/-- all that may come of two sets: the first n pairs -/
def alp (op : Int) (x y : Nat) : Nat → Nat
  | 0 => 0
  | n + 1 => if hs x (n / 3) && hs y (n % 3) then sb (alp op x y n) (jn op (n / 3) (n % 3)) else alp op x y n
@[irreducible] def alls (op : Int) (x y : Nat) : Nat := alp op x y 9
theorem sb_lt : ∀ o : Nat, o < 8 → ∀ t : Nat, t < 3 → sb o t < 8 := by decide +kernel
theorem alp_lt (op : Int) (x y : Nat) (n : Nat) (hn : n ≤ 9) : alp op x y n < 8 := by
  induction n with
  | zero => exact Nat.zero_lt_succ _
  | succ n ih =>
    simp only [alp]
    split
    · have : jn op (n / 3) (n % 3) ≤ 2 := jn_le (by omega) (by omega)
      exact sb_lt _ (ih (by omega)) _ (by omega)
    · exact ih (by omega)
theorem alls_lt (op : Int) (x y : Nat) : alls op x y < 8 := by unfold alls; exact alp_lt _ _ _ 9 (by decide)
theorem ms_lt (n u y : Bool) : ms n u y < 8 := by cases n <;> cases u <;> cases y <;> decide +kernel
theorem alp_at (op : Int) (x y a b : Nat) (hb : b < 3) : alp op x y (3 * a + b + 1) = if hs x a && hs y b then sb (alp op x y (3 * a + b)) (jn op a b) else alp op x y (3 * a + b) := by
  simp only [alp]
  rw [show (3 * a + b) / 3 = a by omega, show (3 * a + b) % 3 = b by omega]
theorem or_sb : ∀ o : Nat, o < 8 → ∀ j : Nat, j < 3 → bits .or .i64 (o : Int) ((2 ^ j : Nat) : Int) = ((sb o j : Nat) : Int) := by decide +kernel
theorem and_hs : ∀ x : Nat, x < 8 → ∀ a : Nat, a < 3 → (bits .and .i64 (x : Int) ((2 ^ a : Nat) : Int) != 0) = hs x a := by decide +kernel
theorem hs_div : ∀ x : Nat, x < 8 → ∀ a : Nat, a < 3 → ((x : Int) / 2 ^ a % 2 == 1) = hs x a := by decide +kernel
end Hy.Cnd
namespace Go.Proofs.Ytpheegfanljeeaa
open Go.RowKit Hy
theorem one_any (t : Nat) (ht : t ≤ 2) (w : World) : Calls Try.prog 94 #[.int .i64 t] w fun e w' => e = .returned (.int .i64 ((2 ^ t : Nat) : Int)) ∧ w = w' := by
  rcases (by omega : t = 0 ∨ t = 1 ∨ t = 2) with rfl | rfl | rfl
  all_goals (go_enter Try.func94, Try.ntmps94; go_wp2; go_returns; exact ⟨rfl, rfl⟩)
theorem either_any (a b : Bool) (w : World) : Calls Try.prog 96 #[.bool a, .bool b] w fun e w' => e = .returned (.int .i64 ((if a then 4 else if b then 1 else 5 : Nat) : Int)) ∧ w = w' := by
  have H0 : Hid (∀ wx, Calls Try.prog 94 #[.int .i64 0] wx fun e w' => e = .returned (.int .i64 1) ∧ wx = w') := hid (fun wx => one_any 0 (by decide) wx)
  have H2 : Hid (∀ wx, Calls Try.prog 94 #[.int .i64 2] wx fun e w' => e = .returned (.int .i64 4) ∧ wx = w') := hid (fun wx => one_any 2 (by decide) wx)
  cases a <;> cases b
  all_goals (
    go_enter Try.func96, Try.ntmps96
    go_wp2_with (first | (go_at_call_of 94 (Value.int IntKind.i64 0); refine (H0.out _).mono ?_; rintro e w1 ⟨rfl, rfl⟩) | (go_at_call_of 94 (Value.int IntKind.i64 2); refine (H2.out _).mono ?_; rintro e w1 ⟨rfl, rfl⟩))
    go_returns
    exact ⟨rfl, rfl⟩)
theorem maySet_any (a b c : Bool) (w : World) : Calls Try.prog 83 #[.bool a, .bool b, .bool c] w fun e w' => e = .returned (.int .i64 (Cnd.ms a b c : Nat)) ∧ w = w' := by
  unfold Cnd.ms
  cases a <;> cases b <;> cases c
  all_goals (go_enter Try.func83, Try.ntmps83; go_wp2; go_returns; exact ⟨rfl, rfl⟩)
theorem hasMay_any (x a : Nat) (hx : x < 8) (ha : a < 3) (w : World) : Calls Try.prog 24 #[.int .i64 x, .int .i64 a] w fun e w' => e = .returned (.bool (Cnd.hs x a)) ∧ w = w' := by
  rw [← Cnd.hs_div x hx a ha]
  have hxI : (x : Int) < 8 := by omega
  clear hx
  rcases (by omega : a = 0 ∨ a = 1 ∨ a = 2) with rfl | rfl | rfl
  all_goals (
    go_enter Try.func24, Try.ntmps24
    go_wp2
    go_returns
    exact ⟨by simp, rfl⟩)
set_option maxHeartbeats 1600000 in
theorem all_any (op : Int) (x y : Nat) (hx : x < 8) (hy : y < 8) (w : World) : Calls Try.prog 81 #[.int .i64 op, .int .i64 x, .int .i64 y] w fun e w' => e = .returned (.int .i64 (Cnd.alls op x y : Nat)) ∧ w = w' := by
  have hA : Cnd.alls op x y = Cnd.alp op x y 9 := by unfold Cnd.alls; rfl
  rw [hA]
  clear hA
  have HX := hid hx
  have HY := hid hy
  clear hx hy
  go_enter Try.func81, Try.ntmps81
  go_wp2
  go_loop [6, 7, 8] (fun x6 x7 _ => ∃ a v : Nat, a ≤ 3 ∧ x7 = .int .i64 a ∧ x6 = .int .i64 v ∧ Hid (v = Cnd.alp op x y (3 * a))) (fun _ x7 _ => 3 - (intOf x7).toNat)
  case atStart => exact ⟨0, 0, by omega, rfl, rfl, rfl⟩
  case round =>
    obtain ⟨a, v, ha, rfl, rfl, HV⟩ := hrel
    by_cases hlt : a < 3
    · have haI : (a : Int) ≤ 2 := by omega
      have H1 := hid (fun wx => one_any a (by omega) wx)
      have HAX := hid (Cnd.and_hs x HX.out a (by omega))
      obtain ⟨A, hA⟩ : ∃ A, A = 2 ^ a := ⟨_, rfl⟩
      rw [← hA] at H1 HAX
      clear hA
      go_wp2
      go_loop [6, 8] (fun x6 x8 => ∃ b v : Nat, b ≤ 3 ∧ x8 = .int .i64 b ∧ x6 = .int .i64 v ∧ Hid (v = Cnd.alp op x y (3 * a + b))) (fun _ x8 => 3 - (intOf x8).toNat)
      case atStart => exact ⟨0, v, by omega, rfl, rfl, HV⟩
      case round =>
        obtain ⟨b, v, hb, rfl, rfl, HV⟩ := hrel
        by_cases hltb : b < 3
        · have hbI : (b : Int) ≤ 2 := by omega
          have H2 := hid (fun wx => one_any b (by omega) wx)
          have HAY := hid (Cnd.and_hs y HY.out b (by omega))
          obtain ⟨B, hB⟩ : ∃ B, B = 2 ^ b := ⟨_, rfl⟩
          rw [← hB] at H2 HAY
          clear hB
          have HST := hid (Cnd.alp_at op x y a b hltb)
          have HJ := hid (fun wx => joined_any op a b (by omega) (by omega) wx)
          have hv8 : v < 8 := by rw [HV.out]; exact Cnd.alp_lt _ _ _ _ (by omega)
          have hj2 : Cnd.jn op a b ≤ 2 := Cnd.jn_le (by omega) (by omega)
          obtain ⟨J, hJ⟩ : ∃ J, J = Cnd.jn op a b := ⟨_, rfl⟩
          rw [← hJ] at HST HJ hj2
          clear hJ
          have H3 := hid (fun wx => one_any J hj2 wx)
          have HOR := hid (Cnd.or_sb v hv8 J (by omega))
          obtain ⟨C, hC⟩ : ∃ C, C = 2 ^ J := ⟨_, rfl⟩
          rw [← hC] at H3 HOR
          clear hC
          have HSB := hid (show Cnd.sb v J = Cnd.sb (Cnd.alp op x y (3 * a + b)) J by rw [HV.out])
          obtain ⟨V, hV⟩ : ∃ V, V = Cnd.sb v J := ⟨_, rfl⟩
          rw [← hV] at HOR HSB
          have hor := HOR.out
          clear hV hltb hj2 hv8 HOR
          by_cases hxa : Cnd.hs x a = true
          · by_cases hyb : Cnd.hs y b = true
            · have e1 := HAX.out.trans hxa
              have e2 := HAY.out.trans hyb
              have HV2 := hid (show V = Cnd.alp op x y (3 * a + (b + 1)) by rw [← Nat.add_assoc, HST.out, hxa, hyb, HSB.out]; rfl)
              clear HST hxa hyb HAX HAY
              go_wp2_with (first | (go_at_call_of 94 (Value.int IntKind.i64 a); refine (H1.out _).mono ?_; rintro e w1 ⟨rfl, rfl⟩) | (go_at_call_of 94 (Value.int IntKind.i64 b); refine (H2.out _).mono ?_; rintro e w1 ⟨rfl, rfl⟩) | (go_at_call_of 94 (Value.int IntKind.i64 J); refine (H3.out _).mono ?_; rintro e w1 ⟨rfl, rfl⟩) | (go_at_call 73; refine (HJ.out _).mono ?_; rintro e w1 ⟨rfl, rfl⟩))
              go_round
              case rel => exact ⟨b + 1, V, by omega, by go_num, rfl, HV2⟩
              case measure => simp [intOf]; omega
            · have hyf : Cnd.hs y b = false := by simpa using hyb
              have e1 := HAX.out.trans hxa
              have e2 := HAY.out.trans hyf
              have HV2 := hid (show v = Cnd.alp op x y (3 * a + (b + 1)) by rw [← Nat.add_assoc, HST.out, hxa, hyf, HV.out]; rfl)
              clear HST hxa hyb hyf HAX HAY hor
              go_wp2_with (first | (go_at_call_of 94 (Value.int IntKind.i64 a); refine (H1.out _).mono ?_; rintro e w1 ⟨rfl, rfl⟩) | (go_at_call_of 94 (Value.int IntKind.i64 b); refine (H2.out _).mono ?_; rintro e w1 ⟨rfl, rfl⟩))
              go_round
              case rel => exact ⟨b + 1, v, by omega, by go_num, rfl, HV2⟩
              case measure => simp [intOf]; omega
          · have hxf : Cnd.hs x a = false := by simpa using hxa
            have e1 := HAX.out.trans hxf
            have HV2 := hid (show v = Cnd.alp op x y (3 * a + (b + 1)) by rw [← Nat.add_assoc, HST.out, hxf, HV.out]; rfl)
            clear HST hxa hxf HAX HAY hor
            go_wp2_with (first | (go_at_call_of 94 (Value.int IntKind.i64 a); refine (H1.out _).mono ?_; rintro e w1 ⟨rfl, rfl⟩))
            go_round
            case rel => exact ⟨b + 1, v, by omega, by go_num, rfl, HV2⟩
            case measure => simp [intOf]; omega
        · obtain rfl : b = 3 := by omega
          clear hltb
          go_wp2
          go_round
          case rel => exact ⟨a + 1, v, by omega, by go_num, rfl, HV⟩
          case measure => simp [intOf]; omega
    · obtain rfl : a = 3 := by omega
      clear hlt
      go_wp2
      go_returns
      exact ⟨by rw [HV.out]; rfl, rfl⟩
end Go.Proofs.Ytpheegfanljeeaa
end
section
namespace Hy.Cnd
/-- the set of what a leaf may be, of what is known of its column: some are there, some are not; least and most; may it be there? -/
def knB (op : Int) (some none l1 l2 may eq a2 b2 a3 b3 : Bool) : Nat :=
  if op = 4 then ms some false none else if some = false then ms false none false else
  if op = 1 then (if l1 || l2 || !may then ms true none false else if eq then ms false none true else ms true none true) else
  if op = 2 then ms (!a2) none (a2 || b2) else ms (!a3) none (a3 || b3)
@[irreducible] def kn (c : Cnd) (s : Sta) (f : Bloom.F) : Nat :=
  knB c.1 (decide (s.2.1 < s.1)) (decide (0 < s.2.1)) (Cel.less c.2.2 s.2.2.1) (Cel.less s.2.2.2 c.2.2) (Bloom.may f ⟨c.2.2.1, c.2.2.2.1, c.2.2.2.2⟩) (decide (s.2.2.1 = s.2.2.2))
    (Cel.less s.2.2.2 c.2.2) (Cel.less s.2.2.1 c.2.2) (Cel.less c.2.2 s.2.2.1) (Cel.less c.2.2 s.2.2.2)
theorem kn_lt (c : Cnd) (s : Sta) (f : Bloom.F) : kn c s f < 8 := by
  unfold kn knB
  (repeat' split) <;> exact ms_lt _ _ _
end Hy.Cnd
namespace Hy
open Go
abbrev fourV (f : Bloom.F) : Value := .agg #[.int .u64 (f 0 : Nat), .int .u64 (f 1 : Nat), .int .u64 (f 2 : Nat), .int .u64 (f 3 : Nat)]
end Hy
namespace Go.Proofs.Ytpheegfanljeeaa
open Go.RowKit Hy
theorem l1_ways (a b c d : Bool) : a = true ∨ (a = false ∧ b = true) ∨ (a = false ∧ b = false ∧ c = false) ∨ (a = false ∧ b = false ∧ c = true ∧ d = true) ∨ (a = false ∧ b = false ∧ c = true ∧ d = false) := by
  cases a <;> cases b <;> cases c <;> cases d <;> simp
set_option maxHeartbeats 12800000 in
set_option maxRecDepth 100000 in
theorem known_four (col ck rows nulls lk mk : Int) (cn ln mn : Nat) (cs ls mss : ByteArray) (f : Bloom.F) (w : World) :
    Calls Try.prog 80 #[cndV (4, col, ck, cn, cs), .agg #[.int .i64 rows, .int .i64 nulls, .int .i64 lk, .int .u64 (ln : Int), .string ls, .int .i64 mk, .int .u64 (mn : Int), .string mss], fourV f] w fun e w' => e = .returned (.int .i64 (Cnd.kn (4, col, ck, cn, cs) (rows, nulls, (lk, ln, ls), mk, mn, mss) f : Nat)) ∧ Ext w w' := by
  obtain ⟨R, hR⟩ : ∃ R, R = Cnd.kn (4, col, ck, cn, cs) (rows, nulls, (lk, ln, ls), mk, mn, mss) f := ⟨_, rfl⟩
  rw [← hR]
  unfold Cnd.kn at hR
  simp only at hR
  have H0 : Hid (∀ wx, Calls Try.prog 94 #[.int .i64 0] wx fun e w' => e = .returned (.int .i64 1) ∧ wx = w') := hid (fun wx => one_any 0 (by decide) wx)
  have H1 : Hid (∀ wx, Calls Try.prog 94 #[.int .i64 1] wx fun e w' => e = .returned (.int .i64 2) ∧ wx = w') := hid (fun wx => one_any 1 (by decide) wx)
  have H2 : Hid (∀ wx, Calls Try.prog 94 #[.int .i64 2] wx fun e w' => e = .returned (.int .i64 4) ∧ wx = w') := hid (fun wx => one_any 2 (by decide) wx)
  unfold Cnd.knB at hR
  rw [if_pos rfl] at hR
  by_cases h1 : nulls < rows <;> by_cases h2 : 0 < nulls
  all_goals simp only [h1, h2, decide_true, decide_false] at hR
  all_goals have HE := hid hR
  all_goals clear hR
  all_goals (
    go_enter Try.func80, Try.ntmps80
    go_upto_region 1 with fail
    refine wp_gen (fun w' => Ext w w' ∧ Blk w' w.heap.size 39 #[.int .i64 (4), .int .i64 col, .int .i64 ck, .int .u64 (cn : Int), .string cs] ∧ Blk w' (w.heap.size + 1) 45 #[.int .i64 rows, .int .i64 nulls, .int .i64 lk, .int .u64 (ln : Int), .string ls, .int .i64 mk, .int .u64 (mn : Int), .string mss] ∧ Blk w' (w.heap.size + 1 + 1) 48 (Bloom.arr f))
      ⟨(((ext_refl _).new _).new _).new _, ((Blk.new _ _ _).alloc _).alloc _, Blk.alloc (Blk.newAt (by simp)) _, Blk.newAt (by simp)⟩ ?_
    rintro wz ⟨B, B1, B2, B3⟩
    unfold Bloom.arr at B3
    have a0 := B1.cell 0; have a1 := B1.cell 1; have a2 := B1.cell 2; have a3 := B1.cell 3; have a4 := B1.cell 4; have s0 := B2.cell 0; have s1 := B2.cell 1; have s2 := B2.cell 2; have s3 := B2.cell 3; have s4 := B2.cell 4; have s5 := B2.cell 5; have s6 := B2.cell 6; have s7 := B2.cell 7; have f0 := B3.cell 0; have f1 := B3.cell 1; have f2 := B3.cell 2; have f3 := B3.cell 3
    go_wp2_with (first | (go_at_call_of 94 (Value.int IntKind.i64 0); refine (H0.out _).mono ?_; rintro e w1 ⟨rfl, rfl⟩) | (go_at_call_of 94 (Value.int IntKind.i64 1); refine (H1.out _).mono ?_; rintro e w1 ⟨rfl, rfl⟩) | (go_at_call_of 94 (Value.int IntKind.i64 2); refine (H2.out _).mono ?_; rintro e w1 ⟨rfl, rfl⟩))
    go_returns
    exact ⟨ret_int (by rw [HE.out]; decide +kernel), B⟩)
set_option maxHeartbeats 12800000 in
set_option maxRecDepth 100000 in
theorem known_none (col ck rows nulls lk mk : Int) (cn ln mn : Nat) (cs ls mss : ByteArray) (f : Bloom.F) (w : World) (op : Int) (h4 : op ≠ 4) (hsm : ¬ nulls < rows) :
    Calls Try.prog 80 #[cndV (op, col, ck, cn, cs), .agg #[.int .i64 rows, .int .i64 nulls, .int .i64 lk, .int .u64 (ln : Int), .string ls, .int .i64 mk, .int .u64 (mn : Int), .string mss], fourV f] w fun e w' => e = .returned (.int .i64 (Cnd.kn (op, col, ck, cn, cs) (rows, nulls, (lk, ln, ls), mk, mn, mss) f : Nat)) ∧ Ext w w' := by
  obtain ⟨R, hR⟩ : ∃ R, R = Cnd.kn (op, col, ck, cn, cs) (rows, nulls, (lk, ln, ls), mk, mn, mss) f := ⟨_, rfl⟩
  rw [← hR]
  unfold Cnd.kn at hR
  simp only at hR
  have H0 : Hid (∀ wx, Calls Try.prog 94 #[.int .i64 0] wx fun e w' => e = .returned (.int .i64 1) ∧ wx = w') := hid (fun wx => one_any 0 (by decide) wx)
  have H1 : Hid (∀ wx, Calls Try.prog 94 #[.int .i64 1] wx fun e w' => e = .returned (.int .i64 2) ∧ wx = w') := hid (fun wx => one_any 1 (by decide) wx)
  have H2 : Hid (∀ wx, Calls Try.prog 94 #[.int .i64 2] wx fun e w' => e = .returned (.int .i64 4) ∧ wx = w') := hid (fun wx => one_any 2 (by decide) wx)
  unfold Cnd.knB at hR
  rw [if_neg h4, if_pos (decide_eq_false hsm)] at hR
  have e4 : (op == 4) = false := beq_eq_false_iff_ne.2 h4
  by_cases h2 : 0 < nulls
  all_goals simp only [h2, decide_true, decide_false] at hR
  all_goals have HE := hid hR
  all_goals clear hR h4
  all_goals (
    go_enter Try.func80, Try.ntmps80
    go_upto_region 1 with fail
    refine wp_gen (fun w' => Ext w w' ∧ Blk w' w.heap.size 39 #[.int .i64 (op), .int .i64 col, .int .i64 ck, .int .u64 (cn : Int), .string cs] ∧ Blk w' (w.heap.size + 1) 45 #[.int .i64 rows, .int .i64 nulls, .int .i64 lk, .int .u64 (ln : Int), .string ls, .int .i64 mk, .int .u64 (mn : Int), .string mss] ∧ Blk w' (w.heap.size + 1 + 1) 48 (Bloom.arr f))
      ⟨(((ext_refl _).new _).new _).new _, ((Blk.new _ _ _).alloc _).alloc _, Blk.alloc (Blk.newAt (by simp)) _, Blk.newAt (by simp)⟩ ?_
    rintro wz ⟨B, B1, B2, B3⟩
    unfold Bloom.arr at B3
    have a0 := B1.cell 0; have a1 := B1.cell 1; have a2 := B1.cell 2; have a3 := B1.cell 3; have a4 := B1.cell 4; have s0 := B2.cell 0; have s1 := B2.cell 1; have s2 := B2.cell 2; have s3 := B2.cell 3; have s4 := B2.cell 4; have s5 := B2.cell 5; have s6 := B2.cell 6; have s7 := B2.cell 7; have f0 := B3.cell 0; have f1 := B3.cell 1; have f2 := B3.cell 2; have f3 := B3.cell 3
    go_wp2_with (first | (go_at_call_of 94 (Value.int IntKind.i64 0); refine (H0.out _).mono ?_; rintro e w1 ⟨rfl, rfl⟩) | (go_at_call_of 94 (Value.int IntKind.i64 1); refine (H1.out _).mono ?_; rintro e w1 ⟨rfl, rfl⟩) | (go_at_call_of 94 (Value.int IntKind.i64 2); refine (H2.out _).mono ?_; rintro e w1 ⟨rfl, rfl⟩))
    go_returns
    exact ⟨ret_int (by rw [HE.out]; decide +kernel), B⟩)
set_option maxHeartbeats 12800000 in
set_option maxRecDepth 100000 in
theorem known_one (col ck rows nulls lk mk : Int) (cn ln mn : Nat) (cs ls mss : ByteArray) (f : Bloom.F) (w : World) (hf : f.ok) (hcn : cn < 18446744073709551616) (hcs : cs.size ≤ 140737488351232) (hsm : nulls < rows) :
    Calls Try.prog 80 #[cndV (1, col, ck, cn, cs), .agg #[.int .i64 rows, .int .i64 nulls, .int .i64 lk, .int .u64 (ln : Int), .string ls, .int .i64 mk, .int .u64 (mn : Int), .string mss], fourV f] w fun e w' => e = .returned (.int .i64 (Cnd.kn (1, col, ck, cn, cs) (rows, nulls, (lk, ln, ls), mk, mn, mss) f : Nat)) ∧ Ext w w' := by
  obtain ⟨R, hR⟩ : ∃ R, R = Cnd.kn (1, col, ck, cn, cs) (rows, nulls, (lk, ln, ls), mk, mn, mss) f := ⟨_, rfl⟩
  rw [← hR]
  unfold Cnd.kn at hR
  simp only at hR
  have H0 : Hid (∀ wx, Calls Try.prog 94 #[.int .i64 0] wx fun e w' => e = .returned (.int .i64 1) ∧ wx = w') := hid (fun wx => one_any 0 (by decide) wx)
  have H1 : Hid (∀ wx, Calls Try.prog 94 #[.int .i64 1] wx fun e w' => e = .returned (.int .i64 2) ∧ wx = w') := hid (fun wx => one_any 1 (by decide) wx)
  have H2 : Hid (∀ wx, Calls Try.prog 94 #[.int .i64 2] wx fun e w' => e = .returned (.int .i64 4) ∧ wx = w') := hid (fun wx => one_any 2 (by decide) wx)
  unfold Cnd.knB at hR
  rw [if_neg (by decide), if_neg (by rw [decide_eq_true hsm]; decide), if_pos rfl] at hR
  have HEI := hid (fun a b wx => either_any a b wx)
  have HL1 := hid (fun wx => less_any (ck, cn, cs) (lk, ln, ls) wx)
  have HL2 := hid (fun wx => less_any (mk, mn, mss) (ck, cn, cs) wx)
  have HM := hid (fun wx => may_f_any f ck cn cs wx hf hcn hcs)
  have hq := fun w => cel_eql lk mk ln mn ls mss w
  generalize Cel.less (ck, cn, cs) (lk, ln, ls) = l1 at *
  generalize Cel.less (mk, mn, mss) (ck, cn, cs) = l2 at *
  generalize Bloom.may f ⟨ck, cn, cs⟩ = l3 at *
  generalize decide (((lk, ln, ls) : Cel) = (mk, mn, mss)) = l4 at *
  clear hf hcn hcs
  by_cases h2 : 0 < nulls
  all_goals simp only [h2, decide_true, decide_false] at hR
  all_goals rcases l1_ways l1 l2 l3 l4 with rfl | ⟨rfl, rfl⟩ | ⟨rfl, rfl, rfl⟩ | ⟨rfl, rfl, rfl, rfl⟩ | ⟨rfl, rfl, rfl, rfl⟩
  all_goals have HE := hid hR
  all_goals clear hR
  all_goals (
    go_enter Try.func80, Try.ntmps80
    go_upto_region 1 with fail
    refine wp_gen (fun w' => Ext w w' ∧ Blk w' w.heap.size 39 #[.int .i64 (1), .int .i64 col, .int .i64 ck, .int .u64 (cn : Int), .string cs] ∧ Blk w' (w.heap.size + 1) 45 #[.int .i64 rows, .int .i64 nulls, .int .i64 lk, .int .u64 (ln : Int), .string ls, .int .i64 mk, .int .u64 (mn : Int), .string mss] ∧ Blk w' (w.heap.size + 1 + 1) 48 (Bloom.arr f))
      ⟨(((ext_refl _).new _).new _).new _, ((Blk.new _ _ _).alloc _).alloc _, Blk.alloc (Blk.newAt (by simp)) _, Blk.newAt (by simp)⟩ ?_
    rintro wz ⟨B, B1, B2, B3⟩
    unfold Bloom.arr at B3
    have a0 := B1.cell 0; have a1 := B1.cell 1; have a2 := B1.cell 2; have a3 := B1.cell 3; have a4 := B1.cell 4; have s0 := B2.cell 0; have s1 := B2.cell 1; have s2 := B2.cell 2; have s3 := B2.cell 3; have s4 := B2.cell 4; have s5 := B2.cell 5; have s6 := B2.cell 6; have s7 := B2.cell 7; have f0 := B3.cell 0; have f1 := B3.cell 1; have f2 := B3.cell 2; have f3 := B3.cell 3
    go_wp2_with (first | (go_at_call_of 94 (Value.int IntKind.i64 0); refine (H0.out _).mono ?_; rintro e w1 ⟨rfl, rfl⟩) | (go_at_call_of 94 (Value.int IntKind.i64 1); refine (H1.out _).mono ?_; rintro e w1 ⟨rfl, rfl⟩) | (go_at_call_of 94 (Value.int IntKind.i64 2); refine (H2.out _).mono ?_; rintro e w1 ⟨rfl, rfl⟩) | (go_at_call 77; go_loud (refine (HL1.out _).mono ?_; rintro e w2 ⟨rfl, x2⟩; replace B := B.then x2; replace B1 := B1.keep x2; replace B2 := B2.keep x2; replace B3 := B3.keep x2; clear x2; clear HL1; replace a0 := B1.cell 0; replace a1 := B1.cell 1; replace a2 := B1.cell 2; replace a3 := B1.cell 3; replace a4 := B1.cell 4; replace s0 := B2.cell 0; replace s1 := B2.cell 1; replace s2 := B2.cell 2; replace s3 := B2.cell 3; replace s4 := B2.cell 4; replace s5 := B2.cell 5; replace s6 := B2.cell 6; replace s7 := B2.cell 7; replace f0 := B3.cell 0; replace f1 := B3.cell 1; replace f2 := B3.cell 2; replace f3 := B3.cell 3)) | (go_at_call 77; go_loud (refine (HL2.out _).mono ?_; rintro e w2 ⟨rfl, x2⟩; replace B := B.then x2; replace B1 := B1.keep x2; replace B2 := B2.keep x2; replace B3 := B3.keep x2; clear x2; clear HL2; replace a0 := B1.cell 0; replace a1 := B1.cell 1; replace a2 := B1.cell 2; replace a3 := B1.cell 3; replace a4 := B1.cell 4; replace s0 := B2.cell 0; replace s1 := B2.cell 1; replace s2 := B2.cell 2; replace s3 := B2.cell 3; replace s4 := B2.cell 4; replace s5 := B2.cell 5; replace s6 := B2.cell 6; replace s7 := B2.cell 7; replace f0 := B3.cell 0; replace f1 := B3.cell 1; replace f2 := B3.cell 2; replace f3 := B3.cell 3)) | (go_at_call 95; go_loud (refine (HM.out _).mono ?_; rintro e w2 ⟨rfl, x2⟩; replace B := B.then x2; replace B1 := B1.keep x2; replace B2 := B2.keep x2; replace B3 := B3.keep x2; clear x2; replace a0 := B1.cell 0; replace a1 := B1.cell 1; replace a2 := B1.cell 2; replace a3 := B1.cell 3; replace a4 := B1.cell 4; replace s0 := B2.cell 0; replace s1 := B2.cell 1; replace s2 := B2.cell 2; replace s3 := B2.cell 3; replace s4 := B2.cell 4; replace s5 := B2.cell 5; replace s6 := B2.cell 6; replace s7 := B2.cell 7; replace f0 := B3.cell 0; replace f1 := B3.cell 1; replace f2 := B3.cell 2; replace f3 := B3.cell 3)) | (go_at_call 96; refine (HEI.out _ _ _).mono ?_; rintro e w1 ⟨rfl, rfl⟩))
    go_returns
    exact ⟨ret_int (by rw [HE.out]; first | decide +kernel | (clear HL2; cases l2 <;> cases l3 <;> cases l4 <;> decide +kernel) | (cases l3 <;> cases l4 <;> decide +kernel) | (cases l4 <;> decide +kernel)), B⟩)
set_option maxHeartbeats 12800000 in
set_option maxRecDepth 100000 in
theorem known_two (col ck rows nulls lk mk : Int) (cn ln mn : Nat) (cs ls mss : ByteArray) (f : Bloom.F) (w : World) (hsm : nulls < rows) :
    Calls Try.prog 80 #[cndV (2, col, ck, cn, cs), .agg #[.int .i64 rows, .int .i64 nulls, .int .i64 lk, .int .u64 (ln : Int), .string ls, .int .i64 mk, .int .u64 (mn : Int), .string mss], fourV f] w fun e w' => e = .returned (.int .i64 (Cnd.kn (2, col, ck, cn, cs) (rows, nulls, (lk, ln, ls), mk, mn, mss) f : Nat)) ∧ Ext w w' := by
  obtain ⟨R, hR⟩ : ∃ R, R = Cnd.kn (2, col, ck, cn, cs) (rows, nulls, (lk, ln, ls), mk, mn, mss) f := ⟨_, rfl⟩
  rw [← hR]
  unfold Cnd.kn at hR
  simp only at hR
  have H0 : Hid (∀ wx, Calls Try.prog 94 #[.int .i64 0] wx fun e w' => e = .returned (.int .i64 1) ∧ wx = w') := hid (fun wx => one_any 0 (by decide) wx)
  have H1 : Hid (∀ wx, Calls Try.prog 94 #[.int .i64 1] wx fun e w' => e = .returned (.int .i64 2) ∧ wx = w') := hid (fun wx => one_any 1 (by decide) wx)
  have H2 : Hid (∀ wx, Calls Try.prog 94 #[.int .i64 2] wx fun e w' => e = .returned (.int .i64 4) ∧ wx = w') := hid (fun wx => one_any 2 (by decide) wx)
  unfold Cnd.knB at hR
  rw [if_neg (by decide), if_neg (by rw [decide_eq_true hsm]; decide), if_neg (by decide), if_pos rfl] at hR
  have HEI := hid (fun a b wx => either_any a b wx)
  have HL1 := hid (fun wx => less_any (mk, mn, mss) (ck, cn, cs) wx)
  have HL2 := hid (fun wx => less_any (lk, ln, ls) (ck, cn, cs) wx)
  generalize Cel.less (mk, mn, mss) (ck, cn, cs) = l1 at *
  generalize Cel.less (lk, ln, ls) (ck, cn, cs) = l2 at *
  by_cases h2 : 0 < nulls
  all_goals simp only [h2, decide_true, decide_false] at hR
  all_goals cases l1 <;> cases l2
  all_goals have HE := hid hR
  all_goals clear hR
  all_goals (
    go_enter Try.func80, Try.ntmps80
    go_upto_region 1 with fail
    refine wp_gen (fun w' => Ext w w' ∧ Blk w' w.heap.size 39 #[.int .i64 (2), .int .i64 col, .int .i64 ck, .int .u64 (cn : Int), .string cs] ∧ Blk w' (w.heap.size + 1) 45 #[.int .i64 rows, .int .i64 nulls, .int .i64 lk, .int .u64 (ln : Int), .string ls, .int .i64 mk, .int .u64 (mn : Int), .string mss] ∧ Blk w' (w.heap.size + 1 + 1) 48 (Bloom.arr f))
      ⟨(((ext_refl _).new _).new _).new _, ((Blk.new _ _ _).alloc _).alloc _, Blk.alloc (Blk.newAt (by simp)) _, Blk.newAt (by simp)⟩ ?_
    rintro wz ⟨B, B1, B2, B3⟩
    unfold Bloom.arr at B3
    have a0 := B1.cell 0; have a1 := B1.cell 1; have a2 := B1.cell 2; have a3 := B1.cell 3; have a4 := B1.cell 4; have s0 := B2.cell 0; have s1 := B2.cell 1; have s2 := B2.cell 2; have s3 := B2.cell 3; have s4 := B2.cell 4; have s5 := B2.cell 5; have s6 := B2.cell 6; have s7 := B2.cell 7; have f0 := B3.cell 0; have f1 := B3.cell 1; have f2 := B3.cell 2; have f3 := B3.cell 3
    go_wp2_with (first | (go_at_call_of 94 (Value.int IntKind.i64 0); refine (H0.out _).mono ?_; rintro e w1 ⟨rfl, rfl⟩) | (go_at_call_of 94 (Value.int IntKind.i64 1); refine (H1.out _).mono ?_; rintro e w1 ⟨rfl, rfl⟩) | (go_at_call_of 94 (Value.int IntKind.i64 2); refine (H2.out _).mono ?_; rintro e w1 ⟨rfl, rfl⟩))
    have a0r := cell_regrown (B1.cell 0)
    have a1r := cell_regrown (B1.cell 1)
    have a2r := cell_regrown (B1.cell 2)
    have a3r := cell_regrown (B1.cell 3)
    have a4r := cell_regrown (B1.cell 4)
    have s0r := cell_regrown (B2.cell 0)
    have s1r := cell_regrown (B2.cell 1)
    have s2r := cell_regrown (B2.cell 2)
    have s3r := cell_regrown (B2.cell 3)
    have s4r := cell_regrown (B2.cell 4)
    have s5r := cell_regrown (B2.cell 5)
    have s6r := cell_regrown (B2.cell 6)
    have s7r := cell_regrown (B2.cell 7)
    have HB := hid B
    clear B B1 B2 B3 a0 a1 a2 a3 a4 s0 s1 s2 s3 s4 s5 s6 s7 f0 f1 f2 f3
    refine wp_region_walk [(0, true), (1, true), (2, true), (3, true), (4, true), (6, true), (7, true), (8, true), (9, true), (5, false), (10, false), (11, true), (12, false), (13, true), (14, true)] (by kernel_rfl) (by kernel_rfl) (fun _ _ _ _ _ h => h) (by kernel_rfl) (by rfl) ?_
    simp only [List.filterMap_cons, List.filterMap_nil, List.getElem?_toArray, List.getElem?_cons_zero, List.getElem?_cons_succ, Option.map_some]
    repeat (refine wpM_val (by rfl) ?_; intro K hK; go_big_quiet_op; go_big_quiet_on)
    have Y0 : Ext wz wz.drew := Ext.draw (ext_refl wz)
    refine wpM_do (by rfl) ?_
    intro K hK
    go_simp
    refine Calls.mono (HL1.out _) ?_
    rintro e w2 ⟨rfl, hx⟩
    have Y1 := Y0.then hx
    refine hK _ _ Y1 ?_
    clear K hK hx
    refine wpM_do (by rfl) ?_
    intro K hK
    go_simp
    refine Calls.mono (HL2.out _) ?_
    rintro e w3 ⟨rfl, hx⟩
    have Y2 := Y1.then hx
    refine hK _ _ Y2 ?_
    clear K hK hx
    repeat (refine wpM_val (by rfl) ?_; intro K hK; go_big_quiet_op; go_big_quiet_on)
    refine wpM_do (by rfl) ?_
    intro K hK
    go_simp
    refine Calls.mono (HEI.out _ _ _) ?_
    rintro e _ ⟨rfl, rfl⟩
    refine hK _ _ Y2 ?_
    clear K hK
    repeat (refine wpM_val (by rfl) ?_; intro K hK; go_big_quiet_op; go_big_quiet_on)
    refine wpM_nil ?_
    have X3 := hid (HB.out.then Y2)
    clear Y0 Y1 Y2
    go_wp2
    go_returns
    exact ⟨ret_int (by rw [HE.out]; decide +kernel), X3.out⟩)
set_option maxHeartbeats 12800000 in
set_option maxRecDepth 100000 in
theorem known_three (col ck rows nulls lk mk : Int) (cn ln mn : Nat) (cs ls mss : ByteArray) (f : Bloom.F) (w : World) (op : Int) (hsm : nulls < rows) (h4 : op ≠ 4) (h1 : op ≠ 1) (h2' : op ≠ 2) :
    Calls Try.prog 80 #[cndV (op, col, ck, cn, cs), .agg #[.int .i64 rows, .int .i64 nulls, .int .i64 lk, .int .u64 (ln : Int), .string ls, .int .i64 mk, .int .u64 (mn : Int), .string mss], fourV f] w fun e w' => e = .returned (.int .i64 (Cnd.kn (op, col, ck, cn, cs) (rows, nulls, (lk, ln, ls), mk, mn, mss) f : Nat)) ∧ Ext w w' := by
  obtain ⟨R, hR⟩ : ∃ R, R = Cnd.kn (op, col, ck, cn, cs) (rows, nulls, (lk, ln, ls), mk, mn, mss) f := ⟨_, rfl⟩
  rw [← hR]
  unfold Cnd.kn at hR
  simp only at hR
  have H0 : Hid (∀ wx, Calls Try.prog 94 #[.int .i64 0] wx fun e w' => e = .returned (.int .i64 1) ∧ wx = w') := hid (fun wx => one_any 0 (by decide) wx)
  have H1 : Hid (∀ wx, Calls Try.prog 94 #[.int .i64 1] wx fun e w' => e = .returned (.int .i64 2) ∧ wx = w') := hid (fun wx => one_any 1 (by decide) wx)
  have H2 : Hid (∀ wx, Calls Try.prog 94 #[.int .i64 2] wx fun e w' => e = .returned (.int .i64 4) ∧ wx = w') := hid (fun wx => one_any 2 (by decide) wx)
  unfold Cnd.knB at hR
  rw [if_neg h4, if_neg (by rw [decide_eq_true hsm]; decide), if_neg h1, if_neg h2'] at hR
  have e4 : (op == 4) = false := beq_eq_false_iff_ne.2 h4
  have e1 : (op == 1) = false := beq_eq_false_iff_ne.2 h1
  have e2 : (op == 2) = false := beq_eq_false_iff_ne.2 h2'
  clear h4 h1 h2'
  have HEI := hid (fun a b wx => either_any a b wx)
  have HL1 := hid (fun wx => less_any (ck, cn, cs) (lk, ln, ls) wx)
  have HL2 := hid (fun wx => less_any (ck, cn, cs) (mk, mn, mss) wx)
  generalize Cel.less (ck, cn, cs) (lk, ln, ls) = l1 at *
  generalize Cel.less (ck, cn, cs) (mk, mn, mss) = l2 at *
  by_cases h2 : 0 < nulls
  all_goals simp only [h2, decide_true, decide_false] at hR
  all_goals cases l1 <;> cases l2
  all_goals have HE := hid hR
  all_goals clear hR
  all_goals (
    go_enter Try.func80, Try.ntmps80
    go_upto_region 1 with fail
    refine wp_gen (fun w' => Ext w w' ∧ Blk w' w.heap.size 39 #[.int .i64 (op), .int .i64 col, .int .i64 ck, .int .u64 (cn : Int), .string cs] ∧ Blk w' (w.heap.size + 1) 45 #[.int .i64 rows, .int .i64 nulls, .int .i64 lk, .int .u64 (ln : Int), .string ls, .int .i64 mk, .int .u64 (mn : Int), .string mss] ∧ Blk w' (w.heap.size + 1 + 1) 48 (Bloom.arr f))
      ⟨(((ext_refl _).new _).new _).new _, ((Blk.new _ _ _).alloc _).alloc _, Blk.alloc (Blk.newAt (by simp)) _, Blk.newAt (by simp)⟩ ?_
    rintro wz ⟨B, B1, B2, B3⟩
    unfold Bloom.arr at B3
    have a0 := B1.cell 0; have a1 := B1.cell 1; have a2 := B1.cell 2; have a3 := B1.cell 3; have a4 := B1.cell 4; have s0 := B2.cell 0; have s1 := B2.cell 1; have s2 := B2.cell 2; have s3 := B2.cell 3; have s4 := B2.cell 4; have s5 := B2.cell 5; have s6 := B2.cell 6; have s7 := B2.cell 7; have f0 := B3.cell 0; have f1 := B3.cell 1; have f2 := B3.cell 2; have f3 := B3.cell 3
    go_wp2_with (first | (go_at_call_of 94 (Value.int IntKind.i64 0); refine (H0.out _).mono ?_; rintro e w1 ⟨rfl, rfl⟩) | (go_at_call_of 94 (Value.int IntKind.i64 1); refine (H1.out _).mono ?_; rintro e w1 ⟨rfl, rfl⟩) | (go_at_call_of 94 (Value.int IntKind.i64 2); refine (H2.out _).mono ?_; rintro e w1 ⟨rfl, rfl⟩))
    have a0r := cell_regrown (B1.cell 0)
    have a1r := cell_regrown (B1.cell 1)
    have a2r := cell_regrown (B1.cell 2)
    have a3r := cell_regrown (B1.cell 3)
    have a4r := cell_regrown (B1.cell 4)
    have s0r := cell_regrown (B2.cell 0)
    have s1r := cell_regrown (B2.cell 1)
    have s2r := cell_regrown (B2.cell 2)
    have s3r := cell_regrown (B2.cell 3)
    have s4r := cell_regrown (B2.cell 4)
    have s5r := cell_regrown (B2.cell 5)
    have s6r := cell_regrown (B2.cell 6)
    have s7r := cell_regrown (B2.cell 7)
    have HB := hid B
    clear B B1 B2 B3 a0 a1 a2 a3 a4 s0 s1 s2 s3 s4 s5 s6 s7 f0 f1 f2 f3
    refine wp_region_walk [(0, true), (1, true), (2, true), (3, true), (4, true), (6, true), (7, true), (8, true), (9, true), (5, false), (10, false), (11, true), (12, false), (13, true), (14, true)] (by kernel_rfl) (by kernel_rfl) (fun _ _ _ _ _ h => h) (by kernel_rfl) (by rfl) ?_
    simp only [List.filterMap_cons, List.filterMap_nil, List.getElem?_toArray, List.getElem?_cons_zero, List.getElem?_cons_succ, Option.map_some]
    repeat (refine wpM_val (by rfl) ?_; intro K hK; go_big_quiet_op; go_big_quiet_on)
    have Y0 : Ext wz wz.drew := Ext.draw (ext_refl wz)
    refine wpM_do (by rfl) ?_
    intro K hK
    go_simp
    refine Calls.mono (HL1.out _) ?_
    rintro e w2 ⟨rfl, hx⟩
    have Y1 := Y0.then hx
    refine hK _ _ Y1 ?_
    clear K hK hx
    refine wpM_do (by rfl) ?_
    intro K hK
    go_simp
    refine Calls.mono (HL2.out _) ?_
    rintro e w3 ⟨rfl, hx⟩
    have Y2 := Y1.then hx
    refine hK _ _ Y2 ?_
    clear K hK hx
    repeat (refine wpM_val (by rfl) ?_; intro K hK; go_big_quiet_op; go_big_quiet_on)
    refine wpM_do (by rfl) ?_
    intro K hK
    go_simp
    refine Calls.mono (HEI.out _ _ _) ?_
    rintro e _ ⟨rfl, rfl⟩
    refine hK _ _ Y2 ?_
    clear K hK
    repeat (refine wpM_val (by rfl) ?_; intro K hK; go_big_quiet_op; go_big_quiet_on)
    refine wpM_nil ?_
    have X3 := hid (HB.out.then Y2)
    clear Y0 Y1 Y2
    go_wp2
    go_returns
    exact ⟨ret_int (by rw [HE.out]; decide +kernel), X3.out⟩)
theorem known_any (c : Cnd) (s : Sta) (f : Bloom.F) (w : World) (hf : f.ok) (hcn : c.2.2.2.1 < 18446744073709551616) (hcs : c.2.2.2.2.size ≤ 140737488351232) :
    Calls Try.prog 80 #[cndV c, staV s, fourV f] w fun e w' => e = .returned (.int .i64 (Cnd.kn c s f : Nat)) ∧ Ext w w' := by
  obtain ⟨op, col, ck, cn, cs⟩ := c
  obtain ⟨rows, nulls, ⟨lk, ln, ls⟩, mk, mn, mss⟩ := s
  by_cases h4 : op = 4
  · subst h4; exact known_four col ck rows nulls lk mk cn ln mn cs ls mss f w
  by_cases hsm : nulls < rows
  · by_cases h1 : op = 1
    · subst h1; exact known_one col ck rows nulls lk mk cn ln mn cs ls mss f w hf hcn hcs hsm
    by_cases h2 : op = 2
    · subst h2; exact known_two col ck rows nulls lk mk cn ln mn cs ls mss f w hsm
    · exact known_three col ck rows nulls lk mk cn ln mn cs ls mss f w op hsm h4 h1 h2
  · exact known_none col ck rows nulls lk mk cn ln mn cs ls mss f w op h4 hsm
end Go.Proofs.Ytpheegfanljeeaa
end
