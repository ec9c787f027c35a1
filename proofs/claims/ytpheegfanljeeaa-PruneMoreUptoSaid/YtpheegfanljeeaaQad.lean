/- Conditions: truth values: walks. Conditions: asked, known; leafSet: walks. Conditions: lists of small ints in rows of one's own. No program in sight; walk[int]: the walk (printed by gen_qpw.py). Conditions: condBegin, CondOf: walks, down the tree. Conditions: CondOf: walks, from the root down. Conditions: CondOf of two; CondOf: walks, from the root down. Conditions: CondOf, Raw: walks. Conditions: Ask, AskOf: walks (printed by gen_qpn.py). -/
import Derived.Test.YtpheegfanljeeaaQab
import Derived.Test.YtpheegfanljeeaaCed
import Derived.Test.YtpheegfanljeeaaOws
import Derived.Test.YtpheegfanljeeaaGro
import Derived.Test.YtpheegfanljeeaaGhl
import Derived.Test.YtpheegfanljeeaaSli
import Derived.Test.YtpheegfanljeeaaGho
import Derived.Test.YtpheegfanljeeaaQac
section
namespace Hy.Cnd
open Go
/-- joined truth values -/
@[irreducible] def jn (op : Int) (x y : Nat) : Nat := if op = 5 then min x y else if op = 6 then max x y else 2 - x
def b2 (b : Bool) : Nat := if b then 1 else 0
theorem jn_le {op : Int} {x y : Nat} (hx : x ≤ 2) (hy : y ≤ 2) : jn op x y ≤ 2 := by unfold jn; (repeat' split) <;> omega
end Hy.Cnd
namespace Go.Proofs.Ytpheegfanljeeaa
open Go.RowKit Hy
theorem truth_any (b : Bool) (w : World) : Calls Try.prog 92 #[.bool b] w fun e w' => e = .returned (.int .i64 ((2 * Cnd.b2 b : Nat) : Int)) ∧ w = w' := by
  cases b
  all_goals (go_enter Try.func92, Try.ntmps92; go_wp2; go_returns; exact ⟨rfl, rfl⟩)
theorem joined_any (op : Int) (x y : Nat) (hx : x ≤ 2) (hy : y ≤ 2) (w : World) : Calls Try.prog 73 #[.int .i64 op, .int .i64 x, .int .i64 y] w fun e w' => e = .returned (.int .i64 (Cnd.jn op x y : Nat)) ∧ w = w' := by
  by_cases h5 : op = 5
  · subst h5
    rcases (by omega : x = 0 ∨ x = 1 ∨ x = 2) with rfl | rfl | rfl <;> rcases (by omega : y = 0 ∨ y = 1 ∨ y = 2) with rfl | rfl | rfl
    all_goals (go_enter Try.func73, Try.ntmps73; go_wp2; go_returns; exact ⟨by simp [Cnd.jn] <;> rfl, rfl⟩)
  by_cases h6 : op = 6
  · subst h6
    rcases (by omega : x = 0 ∨ x = 1 ∨ x = 2) with rfl | rfl | rfl <;> rcases (by omega : y = 0 ∨ y = 1 ∨ y = 2) with rfl | rfl | rfl
    all_goals (go_enter Try.func73, Try.ntmps73; go_wp2; go_returns; exact ⟨by simp [Cnd.jn] <;> rfl, rfl⟩)
  have e5 : (op == 5) = false := beq_eq_false_iff_ne.2 h5
  have e6 : (op == 6) = false := beq_eq_false_iff_ne.2 h6
  have hj : Cnd.jn op x y = 2 - x := by unfold Cnd.jn; rw [if_neg h5, if_neg h6]
  rw [hj]
  clear hj h5 h6 hy
  rcases (by omega : x = 0 ∨ x = 1 ∨ x = 2) with rfl | rfl | rfl
  all_goals (go_enter Try.func73, Try.ntmps73; go_wp2; go_returns; exact ⟨rfl, rfl⟩)
end Go.Proofs.Ytpheegfanljeeaa
end
section
namespace Hy.Cnd
/-- what a leaf is of a cell: 0 False, 1 Unknown, 2 True -/
@[irreducible] def askd (c : Cnd) (x : Cel) : Nat :=
  if c.1 = 4 then 2 * b2 (decide (x.1 = 0)) else if x.1 = 0 then 1 else
  if c.1 = 1 then 2 * b2 (decide (x = c.2.2)) else if c.1 = 2 then 2 * b2 (Cel.less x c.2.2) else 2 * b2 (Cel.less c.2.2 x)
theorem b2_le (b : Bool) : b2 b ≤ 1 := by cases b <;> decide
theorem askd_le (c : Cnd) (x : Cel) : askd c x ≤ 2 := by
  unfold askd
  have h1 := b2_le (decide (x.1 = 0)); have h2 := b2_le (decide (x = c.2.2)); have h3 := b2_le (Cel.less x c.2.2); have h4 := b2_le (Cel.less c.2.2 x)
  (repeat' split) <;> omega
end Hy.Cnd
namespace Go.Proofs.Ytpheegfanljeeaa
open Go.RowKit Hy
set_option maxHeartbeats 1600000 in
theorem asked_any (c : Cnd) (x : Cel) (w : World) : Calls Try.prog 72 #[cndV c, celV x] w fun e w' => e = .returned (.int .i64 (Cnd.askd c x : Nat)) ∧ Ext w w' := by
  obtain ⟨op, col, k, n, s⟩ := c
  obtain ⟨k', n', s'⟩ := x
  have XN := hid (Ext.new (Ext.new (ext_refl w) (.cells #[.int .i64 op, .int .i64 col, .int .i64 k, .int .u64 (n : Int), .string s] 39)) (.cells #[.int .i64 k', .int .u64 (n' : Int), .string s'] 37))
  have HT := hid (fun b wx => truth_any b wx)
  obtain ⟨R, hR⟩ : ∃ R, R = Cnd.askd (op, col, k, n, s) (k', n', s') := ⟨_, rfl⟩
  rw [← hR]
  unfold Cnd.askd at hR
  simp only at hR
  by_cases h4 : op = 4
  · rw [if_pos h4] at hR
    subst h4
    by_cases h0 : k' = 0
    · rw [decide_eq_true h0] at hR
      subst h0
      have HE := hid hR
      clear hR
      go_enter Try.func72, Try.ntmps72
      go_wp2_with (go_at_call 92; refine (HT.out _ _).mono ?_; rintro e w1 ⟨rfl, rfl⟩)
      go_returns
      exact ⟨by rw [HE.out]; rfl, XN.out⟩
    · rw [decide_eq_false h0] at hR
      have HE := hid hR
      have e0 : (k' == 0) = false := beq_eq_false_iff_ne.2 h0
      clear hR h0
      go_enter Try.func72, Try.ntmps72
      go_wp2_with (go_at_call 92; refine (HT.out _ _).mono ?_; rintro e w1 ⟨rfl, rfl⟩)
      go_returns
      exact ⟨by rw [HE.out]; rfl, XN.out⟩
  rw [if_neg h4] at hR
  have e4 : (op == 4) = false := beq_eq_false_iff_ne.2 h4
  clear h4
  by_cases h0 : k' = 0
  · rw [if_pos h0] at hR
    subst h0
    have HE := hid hR
    clear hR
    go_enter Try.func72, Try.ntmps72
    go_wp2_with (go_at_call 92; refine (HT.out _ _).mono ?_; rintro e w1 ⟨rfl, rfl⟩)
    go_returns
    exact ⟨by rw [HE.out]; rfl, XN.out⟩
  rw [if_neg h0] at hR
  have e0 : (k' == 0) = false := beq_eq_false_iff_ne.2 h0
  clear h0
  by_cases h1 : op = 1
  · rw [if_pos h1] at hR
    subst h1
    have hq := fun w => cel_eql k' k n' n s' s w
    generalize decide (((k', n', s') : Cel) = (k, n, s)) = q at *
    have HE := hid hR
    clear hR
    go_enter Try.func72, Try.ntmps72
    go_wp2_with (go_at_call 92; refine (HT.out _ _).mono ?_; rintro e w1 ⟨rfl, rfl⟩)
    go_returns
    exact ⟨by rw [HE.out]; rfl, XN.out⟩
  rw [if_neg h1] at hR
  have e1 : (op == 1) = false := beq_eq_false_iff_ne.2 h1
  clear h1
  have HL1 := hid (fun wx => less_any (k', n', s') (k, n, s) wx)
  have HL2 := hid (fun wx => less_any (k, n, s) (k', n', s') wx)
  generalize Cel.less (k', n', s') (k, n, s) = q1 at *
  generalize Cel.less (k, n, s) (k', n', s') = q2 at *
  by_cases h2 : op = 2
  · rw [if_pos h2] at hR
    subst h2
    have HE := hid hR
    clear hR HL2
    go_enter Try.func72, Try.ntmps72
    go_wp2_with (first | (go_at_call 92; refine (HT.out _ _).mono ?_; rintro e w1 ⟨rfl, rfl⟩) | (go_at_call 77; go_loud (refine (HL1.out _).mono ?_; rintro e w2 ⟨rfl, x2⟩; have X2 := hid x2; clear x2)))
    go_returns
    exact ⟨by rw [HE.out]; rfl, XN.out.then X2.out⟩
  · rw [if_neg h2] at hR
    have e2 : (op == 2) = false := beq_eq_false_iff_ne.2 h2
    have HE := hid hR
    clear hR HL1 h2
    go_enter Try.func72, Try.ntmps72
    go_wp2_with (first | (go_at_call 92; refine (HT.out _ _).mono ?_; rintro e w1 ⟨rfl, rfl⟩) | (go_at_call 77; go_loud (refine (HL2.out _).mono ?_; rintro e w2 ⟨rfl, x2⟩; have X2 := hid x2; clear x2)))
    go_returns
    exact ⟨by rw [HE.out]; rfl, XN.out.then X2.out⟩
end Go.Proofs.Ytpheegfanljeeaa
end
section
namespace Hy
open Go Go.RowKit
/-- a list of natural numbers as cells of ints -/
def n64s (l : List Nat) : List Value := l.map fun (x : Nat) => .int .i64 (x : Int)
theorem n64s_len (l : List Nat) : (n64s l).length = l.length := List.length_map _
theorem n64s_one (l : List Nat) : ∀ u ∈ n64s l, u.oneCell' = true := fun u hu => by
  obtain ⟨c, _, rfl⟩ := List.mem_map.1 hu; rfl
theorem n64s_app (l m : List Nat) : n64s (l ++ m) = n64s l ++ n64s m := List.map_append
theorem n64s_take (l : List Nat) (k : Nat) : n64s (l.take k) = (n64s l).take k := List.map_take
theorem n64s_set (l : List Nat) (k x : Nat) : n64s (l.set k x) = (n64s l).set k (.int .i64 (x : Int)) := List.map_set
theorem n64s_get (l : List Nat) (k : Nat) (h : k < l.length) : (n64s l)[k]? = some (.int .i64 ((l.getD k 0 : Nat) : Int)) := by
  unfold n64s; rw [List.getElem?_map, List.getElem?_eq_getElem h, List.getD_eq_getElem?_getD, List.getElem?_eq_getElem h]; rfl
theorem own_take {w : World} {base : Nat} {e : TypeId} {n k c : Nat} {A : Option Addr} {xs : List Value} (h : w.ownsRow base e 1 (.slice A n c) n xs) (hk : k ≤ n) (hn : 0 < n) : w.ownsRow base e 1 (.slice A k c) k (xs.take k) := by
  refine ⟨by rw [List.length_take, h.1]; omega, ?_⟩
  rcases h.2 with ⟨h1, _⟩ | ⟨b, cap, cur, hv, hb, hg, h1, h2, h3, h4⟩
  · injection h1 with _ hn0; omega
  · injection hv with ha _ hcap
    subst ha hcap
    refine .inr ⟨b, c, cur, rfl, hb, hg, by omega, h2, h3, ?_⟩
    rw [← h4, List.take_take]; congr 1; omega
theorem own_parts {w : World} {base : Nat} {e : TypeId} {n : Nat} {v : Value} {xs : List Value} (h : w.ownsRow base e 1 v n xs) (hn : 0 < n) :
    ∃ g c cur, v = .slice (some ⟨g, 0, none⟩) n c ∧ base ≤ g ∧ n ≤ c ∧ c ≤ maxLen ∧ Blk w g e cur ∧ ∀ i u, i < n → xs[i]? = some u → w.cell? ⟨g, i, none⟩ = some u := by
  have h0 := h
  rcases h.2 with ⟨_, h1⟩ | ⟨b, cap, cur, hv, hb, hg, h1, h2, h3, h4⟩
  · omega
  · subst hv
    refine ⟨b, cap, cur, rfl, hb, h1, h2, hg, fun i u hi hu => ?_⟩
    have := h0.cells (g := b) rfl i u hu
    rw [add_none] at this; simpa using this
theorem set_last (S : List Nat) (n x : Nat) (h : S.length = n + 1) : S.set n x = S.take n ++ [x] := by
  rw [List.set_eq_take_append_cons_drop, if_pos (by omega), List.drop_of_length_le (by omega)]
end Hy
namespace Go.Proofs.Ytpheegfanljeeaa
open Go.RowKit Hy
theorem rowI : RowT Try.prog 23 3 1 8 := RowT.mk' (z := .int .i64 0) Try.underlying23 (by kernel_rfl) rfl (by decide)
set_option maxHeartbeats 6400000 in
set_option maxRecDepth 100000 in
theorem walkI_any (ks : List Int) (p : List Cnd) (f : Cnd → Nat) (P : Option Addr) (n pcap : Nat) (g : Nat) (w : World) (hr : Cnd.chk ks p = 0) (hn : p.length = n) (hp : Rd w P (cns p)) (hf : ∀ c ∈ p, f c ≤ 2)
    (HF : ∀ c ∈ p, Cnd.sz c.1 = 0 → ∀ wx, Ext w wx → Calls Try.prog 71 #[cndV c, .pointer (some ⟨g, 0, none⟩)] wx fun e w' => e = .returned (.int .i64 (f c : Nat)) ∧ Ext wx w') :
    Calls Try.prog 70 #[.slice P n pcap, .func (.func 71) #[] #[.pointer (some ⟨g, 0, none⟩)], .func (.func 73) #[] #[]] w fun e w' => e = .returned (.int .i64 (Cnd.val f Cnd.jn p : Nat)) ∧ Ext w w' := by
  have HN := hid hn
  have HP := hid hp
  have HLF := hid HF
  have h16 : n ≤ 16 := by
    obtain ⟨_, _, _, h⟩ := Cnd.right_tree hr
    omega
  have HSZ := hid (fun k hk => Cnd.chk_sz hr f Cnd.jn k hk)
  have HST := hid (fun k hk => Cnd.take_stp f Cnd.jn p [] k hk)
  have HLE := hid (fun k => Cnd.stk_le f Cnd.jn p k)
  have HBD := hid (fun k => Cnd.stk_bd (B := 2) (j := Cnd.jn) (p := p) hf (fun op x y hx hy => Cnd.jn_le hx hy) k)
  have HALL := hid (Cnd.stk_all hr f Cnd.jn)
  have hI : (n : Int) ≤ 16 := by omega
  clear hn hp HF hr hf
  go_enter Try.func70, Try.ntmps70
  go_wp2
  go_loopw [7, 9, 13] (fun x _ c wr => ∃ k m : Nat, k ≤ n ∧ c = .int .i64 k ∧ Hid (m = ((p.take k).foldl (Cnd.stp f Cnd.jn) []).length) ∧ Hid (wr.ownsRow w.heap.size 3 1 x m (n64s ((p.take k).foldl (Cnd.stp f Cnd.jn) []))) ∧ Ext w wr) (fun _ _ c _ => n - (intOf c).toNat)
  case atStart => exact ⟨0, 0, Nat.zero_le _, rfl, rfl, hid (World.ownsRow_nil _ _ _ _), ext_refl _⟩
  case round =>
    obtain ⟨k, m, hk, rfl, HM, HO, X⟩ := hrel
    have hmk : m ≤ k := by rw [HM.out]; exact HLE.out k
    by_cases hlt : k < n
    · have hka : k < p.length := by rw [HN.out]; exact hlt
      obtain ⟨b1, o1, e1, l1, c1⟩ := HP.out.cnds k hka
      subst e1
      have d0 := (X.cell (p := ⟨b1, o1 + k * 5, none⟩) l1).trans (c1 k hka).1
      have d1 := (X.cell (p := ⟨b1, o1 + k * 5 + 1, none⟩) l1).trans (c1 k hka).2.1
      have d2 := (X.cell (p := ⟨b1, o1 + k * 5 + 2, none⟩) l1).trans (c1 k hka).2.2.1
      have d3 := (X.cell (p := ⟨b1, o1 + k * 5 + 3, none⟩) l1).trans (c1 k hka).2.2.2.1
      have d4 := (X.cell (p := ⟨b1, o1 + k * 5 + 4, none⟩) l1).trans (c1 k hka).2.2.2.2
      have HCF := hid (HLF.out p[k] (List.getElem_mem hka))
      have HSTK := hid (HST.out k hka)
      have hsm := HSZ.out k hka
      rw [← HM.out] at hsm
      have HBK := hid (HBD.out k)
      clear c1
      generalize p[k] = c at *
      clear hka
      generalize (p.take k).foldl (Cnd.stp f Cnd.jn) [] = S at *
      obtain ⟨op, col, kk, nn, ss⟩ := c
      simp only at d0 d1 d2 d3 d4 hsm
      have HPT := hid (parts_any op)
      have hmI : (m : Int) ≤ (k : Int) := by omega
      have hkI : (k : Int) < (n : Int) := by omega
      have h2 := Cnd.sz_le op
      have XR := hid (X.new (.cells #[.int .i64 op, .int .i64 col, .int .i64 kk, .int .u64 (nn : Int), .string ss] 39))
      obtain ⟨Ab, cb, hAb, _⟩ := Rd.owned HO.out
      subst hAb
      rcases (by omega : Cnd.sz op = 0 ∨ Cnd.sz op = 1 ∨ Cnd.sz op = 2) with hs | hs | hs
      · have HNX := hid (show (p.take (k + 1)).foldl (Cnd.stp f Cnd.jn) [] = S ++ [f (op, col, kk, nn, ss)] by rw [HSTK.out]; unfold Cnd.stp; rw [if_pos (show Cnd.sz (op, col, kk, nn, ss).1 = 0 from hs)])
        replace HCF := hid (HCF.out hs)
        rw [hs] at HPT
        obtain ⟨z, hz⟩ : ∃ z, z = f (op, col, kk, nn, ss) := ⟨_, rfl⟩
        rw [← hz] at HCF HNX
        clear hs h2 hsm HSTK hz
        go_wp2_with (first | (go_at_call 47; refine (HPT.out _).mono ?_; rintro e w1 ⟨rfl, rfl⟩) | (go_at_call 71; go_loud (refine (HCF.out _ XR.out).mono ?_; rintro e w2 ⟨rfl, x2⟩; have X2 := hid (((ext_refl wr).new _).then x2); clear x2)) | (at_builtin; refine wpList_app rfl (.tmp 44) (.tmp 48) rowI rfl _ m _ rfl (own_ext HO.out (X2.out.new _)) _ 1 (n64s [z]) rfl (Src.rd Try.underlying23 _ 1 1 _ rfl (rd_lit rfl rfl) (n64s_one _) (fun h => by cases h)) (by unfold maxLen; omega) (by omega) (by have := X.size; have := X2.out.size; simp; omega) ?_; intro v3 w3 hown3 hg3 ha3 hb3; have O3 := hid hown3; have X3 := hid ((X.then (X2.out.new _)).trans hb3); clear hown3 hg3 ha3 hb3))
        go_roundw
        case rel => exact ⟨k + 1, m + 1, by omega, by go_num, hid (by rw [HNX.out, HM.out]; simp), hid (by rw [HNX.out, n64s_app]; exact O3.out), X3.out⟩
        case measure => simp [intOf]; omega
      all_goals (
        obtain ⟨g3, c3, cur3, hA3, hg3, hc3, hx3, hB3, hcell⟩ := own_parts HO.out (by omega)
        injection hA3 with hA3 _ hc4
        subst hA3
        subst hc4
        have HO1 := hid (own_ext HO.out ((ext_refl wr).new (.cells #[.int .i64 op, .int .i64 col, .int .i64 kk, .int .u64 (nn : Int), .string ss] 39)))
        have HSL := hid HM.out.symm)
      · have HNX := hid (show (p.take (k + 1)).foldl (Cnd.stp f Cnd.jn) [] = S.set (m - 1) (Cnd.jn op (S.getD (m - 1) 0) (S.getD (m - 1) 0)) by
          rw [HSTK.out, set_last S (m - 1) _ (by rw [HSL.out]; omega)]; unfold Cnd.stp; rw [if_neg (by simp only; omega), if_pos (show Cnd.sz (op, col, kk, nn, ss).1 = 1 from hs), HSL.out])
        rw [hs] at HPT
        obtain ⟨r, hr⟩ : ∃ r, m = r + 1 := ⟨m - 1, by omega⟩
        have hrm : m - 1 = r := by omega
        rw [hrm] at HNX
        have hr1 : (m : Int) - 1 = (r : Int) := by omega
        have hw1 : IntKind.i64.wrap ((m : Int) - 1) = (r : Int) := by rw [IntKind.wrap_i64]; omega
        have hw2 : IntKind.i64.wrap (r : Int) = (r : Int) := by rw [IntKind.wrap_i64]; omega
        have hrI : (r : Int) < (m : Int) := by omega
        have e1 := hcell r _ (by omega) (n64s_get S r (by rw [HSL.out]; omega))
        have hx := Cnd.getD_le HBK.out r
        generalize S.getD r 0 = x at *
        have HJ := hid (fun wx => joined_any op x x (by omega) (by omega) wx)
        generalize Cnd.jn op x x = z at *
        have HRM := hid (show r < m by omega)
        have HMM := hid hr
        clear hs h2 hsm HSTK hcell hr hrm hx
        go_wp2_with (first | (go_at_call 47; refine (HPT.out _).mono ?_; rintro e w1 ⟨rfl, rfl⟩))
        refine wp_gen (fun w' => Ext wr w' ∧ w'.ownsRow w.heap.size 3 1 (.slice (some ⟨g3, 0, none⟩) m cb) m (n64s S) ∧ Blk w' wr.heap.size 39 #[.int .i64 op, .int .i64 col, .int .i64 kk, .int .u64 (nn : Int), .string ss]) ⟨(ext_refl wr).new _, HO1.out, Blk.new _ _ _⟩ ?_
        rintro wz ⟨BZ, OZ, B1⟩
        have a0 := cell_regrown (B1.cell 0)
        have e1r := cell_regrown (ext_cell BZ e1)
        have HBZ := hid BZ
        have HOZ := hid OZ
        clear BZ OZ B1
        refine wp_region_late [18] [] [(0, true), (1, true), (2, true), (3, true), (4, true), (5, true), (6, true), (7, true), (8, true), (9, true), (10, true), (11, true), (12, true), (13, true), (14, true), (15, true), (16, false), (17, true), (18, false)] (by kernel_rfl) (by kernel_rfl) (fun _ _ _ _ _ h => h) (by kernel_rfl) (by rfl) ?_
        simp only [List.filterMap_cons, List.filterMap_nil, List.getElem?_toArray, List.getElem?_cons_zero, List.getElem?_cons_succ, Option.map_some, List.contains_cons, List.contains_nil, Nat.reduceBEq, Bool.or_false]
        repeat ((first | refine wpL_val (by rfl) ?_ | refine wpL_pure (by rfl) ?_); intro K hK; go_big_quiet_op; go_big_quiet_on)
        refine wpL_do (by rfl) ?_
        intro K hK
        go_simp
        refine Calls.mono (HJ.out _) ?_
        rintro e _ ⟨rfl, rfl⟩
        have Y0 : Ext wz wz.drew := Ext.draw (ext_refl wz)
        refine hK _ _ Y0 ?_
        clear K hK
        repeat ((first | refine wpL_val (by rfl) ?_ | refine wpL_pure (by rfl) ?_); intro K hK; go_big_quiet_op; go_big_quiet_on)
        have HOD := hid (own_ext HOZ.out Y0)
        have q1 := ext_cell (HBZ.out.then Y0) e1
        have q2 := HOD.out.frozenAt r
        refine wpL_late (by rfl) ?_
        intro K hK
        go_simp
        refine hK _ _ ?_
        clear K hK
        refine wpL_nil ?_
        go_wp2
        go_roundw
        case rel => exact ⟨k + 1, m, by omega, by go_num, hid (by rw [HNX.out, List.length_set]; exact HSL.out.symm), hid (by rw [HNX.out, n64s_set]; exact own_set HOD.out rfl r _), ((X.then HBZ.out).then Y0).put hg3 _⟩
        case measure => simp [intOf]; omega
      · have HNX := hid (show (p.take (k + 1)).foldl (Cnd.stp f Cnd.jn) [] = S.take (m - 2) ++ [Cnd.jn op (S.getD (m - 2) 0) (S.getD (m - 1) 0)] by
          rw [HSTK.out]; unfold Cnd.stp; rw [if_neg (by simp only; omega), if_neg (by simp only; omega), HSL.out])
        rw [hs] at HPT
        obtain ⟨q, hq⟩ : ∃ q, m = q + 2 := ⟨m - 2, by omega⟩
        obtain ⟨r, hr⟩ : ∃ r, r = q + 1 := ⟨_, rfl⟩
        have hqm : m - 2 = q := by omega
        have hrm : m - 1 = r := by omega
        rw [hqm, hrm] at HNX
        have hq1 : (m : Int) - 2 = (q : Int) := by omega
        have hr1 : (m : Int) - 1 = (r : Int) := by omega
        have hw1 : IntKind.i64.wrap ((m : Int) - 1) = (r : Int) := by rw [IntKind.wrap_i64]; omega
        have hw2 : IntKind.i64.wrap (r : Int) = (r : Int) := by rw [IntKind.wrap_i64]; omega
        have hw3 : IntKind.i64.wrap ((m : Int) - 2) = (q : Int) := by rw [IntKind.wrap_i64]; omega
        have hw4 : IntKind.i64.wrap (q : Int) = (q : Int) := by rw [IntKind.wrap_i64]; omega
        have hrI : (r : Int) < (m : Int) := by omega
        have hqI : (q : Int) < (m : Int) := by omega
        have hqc : (q : Int) ≤ (cb : Int) := by omega
        have e1 := hcell r _ (by omega) (n64s_get S r (by rw [HSL.out]; omega))
        have e2 := hcell q _ (by omega) (n64s_get S q (by rw [HSL.out]; omega))
        have hx := Cnd.getD_le HBK.out r
        have hy := Cnd.getD_le HBK.out q
        generalize S.getD r 0 = x at *
        generalize S.getD q 0 = y at *
        have HJ := hid (fun wx => joined_any op y x (by omega) (by omega) wx)
        generalize Cnd.jn op y x = z at *
        have HQM := hid (show q ≤ m ∧ 0 < m ∧ m ≤ 16 by omega)
        have HQL := hid (show (S.take q).length = q by rw [List.length_take, HSL.out]; omega)
        have HHS := hid X.size
        clear hs h2 hsm HSTK hcell hr hrm hx hy hq hqm
        go_wp2_with (first | (go_at_call 47; refine (HPT.out _).mono ?_; rintro e w1 ⟨rfl, rfl⟩))
        refine wp_gen (fun w' => Ext wr w' ∧ w'.ownsRow w.heap.size 3 1 (.slice (some ⟨g3, 0, none⟩) m cb) m (n64s S) ∧ Blk w' wr.heap.size 39 #[.int .i64 op, .int .i64 col, .int .i64 kk, .int .u64 (nn : Int), .string ss]) ⟨(ext_refl wr).new _, HO1.out, Blk.new _ _ _⟩ ?_
        rintro wz ⟨BZ, OZ, B1⟩
        have a0 := cell_regrown (B1.cell 0)
        have e1r := cell_regrown (ext_cell BZ e1)
        have e2r := cell_regrown (ext_cell BZ e2)
        have HBZ := hid BZ
        have HOZ := hid (own_take OZ HQM.out.1 HQM.out.2.1)
        clear BZ OZ B1
        refine wp_region_late [19] [20] [(0, true), (1, true), (2, true), (3, true), (4, true), (5, true), (6, true), (7, true), (8, true), (9, true), (10, true), (11, true), (12, true), (13, true), (14, true), (15, true), (16, true), (17, false), (18, false), (19, false), (20, true)] (by kernel_rfl) (by kernel_rfl) (fun _ _ _ _ _ h => h) (by kernel_rfl) (by rfl) ?_
        simp only [List.filterMap_cons, List.filterMap_nil, List.getElem?_toArray, List.getElem?_cons_zero, List.getElem?_cons_succ, Option.map_some, List.contains_cons, List.contains_nil, Nat.reduceBEq, Bool.or_false]
        repeat ((first | refine wpL_val (by rfl) ?_ | refine wpL_pure (by rfl) ?_); intro K hK; go_big_quiet_op; go_big_quiet_on)
        refine wpL_do (by rfl) ?_
        intro K hK
        go_simp
        refine Calls.mono (HJ.out _) ?_
        rintro e _ ⟨rfl, rfl⟩
        have Y0 : Ext wz wz.drew := Ext.draw (ext_refl wz)
        refine hK _ _ Y0 ?_
        clear K hK
        refine wpL_do (by rfl) ?_
        intro K hK
        go_simp
        have Y1 : Ext wz (wz.drew.alloc (.cells #[.int .i64 (z : Int)] 3)) := Ext.new Y0 _
        refine hK _ _ Y1 ?_
        clear K hK
        refine wpL_late (by rfl) ?_
        intro K hK
        refine wp_app (.tmp 25) (.tmp 40) rowI rfl _ q (n64s (S.take q)) rfl (by rw [n64s_take]; exact own_ext HOZ.out Y1) _ 1 (n64s [z]) rfl (Src.rd Try.underlying23 _ 1 1 _ rfl (rd_lit rfl rfl) (n64s_one _) (fun h => by cases h)) (by have := HQM.out; unfold maxLen; omega) (by have := HQM.out; omega) (by have := HHS.out; have := HBZ.out.size; simp; omega) ?_
        intro v3 w3 hown3 hgr3 hat3 hbel3
        refine hK _ _ ?_
        clear K hK
        obtain ⟨C3, k3, rfl, _⟩ := Rd.owned hown3
        have HO3 := hid hown3
        have HX3 : Hid (Ext w w3) := hid (((X.then HBZ.out).then Y1).trans hbel3)
        clear hown3 hgr3 hat3 hbel3 d0 d1 d2 d3 d4 e1 e2 e1r e2r a0
        simp only [Act.put, List.setIfInBounds_toArray, List.set_cons_succ, List.set_cons_zero]
        repeat (refine wpL_pure (by rfl) ?_; intro K hK; go_big_quiet_op; go_big_quiet_on)
        refine wpL_nil ?_
        go_wp2
        go_roundw
        case rel => exact ⟨k + 1, q + 1, by omega, by go_num, hid (by rw [HNX.out, List.length_append, HQL.out]; rfl), hid (by rw [HNX.out, n64s_app]; exact HO3.out), HX3.out⟩
        case measure => simp [intOf]; omega
    · obtain rfl : k = n := by omega
      have hti : p.take k = p := List.take_of_length_le (by rw [HN.out]; exact Nat.le_refl _)
      rw [hti, HALL.out] at HM HO
      have hm1 : m = 1 := HM.out
      subst hm1
      obtain ⟨g3, c3, cur3, rfl, hg3, hc3, hx3, hB3, hcell⟩ := own_parts HO.out (by omega)
      have e1 := hcell 0 _ (by omega) (show _ = some (.int .i64 ((Cnd.val f Cnd.jn p : Nat) : Int)) from rfl)
      obtain ⟨V, hV⟩ : ∃ V, V = Cnd.val f Cnd.jn p := ⟨_, rfl⟩
      rw [← hV] at e1
      have HV := hid hV
      clear hcell hti hV
      go_wp2
      go_returns
      exact ⟨by rw [← HV.out]; rfl, X⟩
end Go.Proofs.Ytpheegfanljeeaa
end
section
namespace Hy.Cnd
theorem code_last (t : Tm) : ∃ c r, t.code = r ++ [c] ∧ ((t = .lf c ∧ r = []) ∨ (∃ u, t = .nt c u ∧ r = u.code) ∨ (∃ a b, t = .jn c a b ∧ r = a.code ++ b.code)) := by
  cases t with
  | lf c => exact ⟨c, [], rfl, .inl ⟨rfl, rfl⟩⟩
  | nt c u => exact ⟨c, u.code, rfl, .inr (.inl ⟨u, rfl, rfl⟩)⟩
  | jn c a b => exact ⟨c, a.code ++ b.code, by simp [Tm.code], .inr (.inr ⟨a, b, rfl, rfl⟩)⟩
end Hy.Cnd
namespace Go.Proofs.Ytpheegfanljeeaa
open Go.RowKit Hy
/-- one node: as many steps as it is of -/
theorem condBegin_core (l : List Cnd) (P : Option Addr) (n pcap E q : Nat) (A : Nat → Nat) (w : World) (hn : l.length = n) (hp : Rd w P (cns l)) (h16 : n ≤ 16) (hE : E < n) (hq : csz (l[E]'(by omega)).1 = q) (hA0 : A 0 = E) (hA : ∀ k, k ≤ q → A k ≤ 16) (hq2 : q ≤ 2)
    (HC : ∀ k, k < q → Calls Try.prog 75 #[.slice P n pcap, .int .i64 (A k : Nat)] w fun e w' => e = .returned (.int .i64 (A (k + 1) : Nat)) ∧ w = w') :
    Calls Try.prog 75 #[.slice P n pcap, .int .i64 ((E + 1 : Nat) : Int)] w fun e w' => e = .returned (.int .i64 (A q : Nat)) ∧ w = w' := by
  obtain ⟨b1, o1, e1, l1, c1⟩ := hp.cnds E (by omega)
  subst e1
  have d0 := (c1 E (by omega)).1
  have HS := hid (condSize_any (l[E]'(by omega)).1)
  rw [hq] at HS
  generalize (l[E]'(by omega)).1 = op at *
  have HH := hid HC
  have HAA := hid hA
  have HA0 := hid hA0
  have hEI : (E : Int) < (n : Int) := by omega
  have hnI : (n : Int) ≤ 16 := by omega
  have hqI : (q : Int) ≤ 2 := by omega
  have hE1 : (((E + 1 : Nat) : Int)) - 1 = (E : Int) := by omega
  obtain ⟨F, hF⟩ : ∃ F : Int, F = ((E + 1 : Nat) : Int) := ⟨_, rfl⟩
  rw [← hF] at hE1 ⊢
  have hFI : F ≤ 16 := by omega
  have hF0 : 1 ≤ F := by omega
  clear c1 hp hn HC hA hq hF hE h16 hA0 hq2
  go_enter Try.func75, Try.ntmps75
  go_wp2
  go_loop [5, 6] (fun x y => ∃ k : Nat, k ≤ q ∧ y = .int .i64 k ∧ x = .int .i64 (A k : Nat)) (fun _ y => q - (intOf y).toNat)
  case atStart => exact ⟨0, Nat.zero_le _, rfl, by rw [HA0.out]⟩
  case round =>
    obtain ⟨k, hk, rfl, rfl⟩ := hrel
    have hAk := HAA.out k hk
    by_cases hlt : k < q
    · have HCK := hid (HH.out k hlt)
      have hltI : (k : Int) < (q : Int) := by omega
      obtain ⟨B, hB⟩ : ∃ B, B = A (k + 1) := ⟨_, rfl⟩
      rw [← hB] at HCK
      have HB := hid hB
      obtain ⟨C, hC⟩ : ∃ C, C = A k := ⟨_, rfl⟩
      rw [← hC] at HCK hAk ⊢
      have HLT := hid hlt
      clear hB hC hlt
      go_wp2_with (first | (go_at_call 50; refine (HS.out _).mono ?_; rintro e w1 ⟨rfl, rfl⟩) | (go_at_call 75; refine HCK.out.mono ?_; rintro e w1 ⟨rfl, rfl⟩))
      go_round
      case rel => exact ⟨k + 1, by have := HLT.out; omega, by go_num, by rw [HB.out]⟩
      case measure => simp [intOf]; have := HLT.out; omega
    · obtain rfl : k = q := by omega
      clear hlt
      go_wp2_with (go_at_call 50; refine (HS.out _).mono ?_; rintro e w1 ⟨rfl, rfl⟩)
      go_returns
      exact ⟨rfl, rfl⟩
theorem condBegin_any (t : Cnd.Tm) : ∀ (l : List Cnd) (P : Option Addr) (n pcap : Nat) (pre post : List Cnd) (w : World), t.ok → l = pre ++ (t.code ++ post) → (∀ c ∈ l, 1 ≤ c.1 ∧ c.1 ≤ 7) → l.length = n → n ≤ 16 → Rd w P (cns l) →
    Calls Try.prog 75 #[.slice P n pcap, .int .i64 ((pre.length + t.code.length : Nat) : Int)] w fun e w' => e = .returned (.int .i64 (pre.length : Nat)) ∧ w = w' := by
  have hcs : ∀ op : Int, 1 ≤ op ∧ op ≤ 7 → csz op = (Cnd.sz op : Nat) := fun op h => by unfold csz; rw [if_neg (by omega)]
  induction t with
  | lf c =>
    intro l P n pcap pre post w hok hl hr hn h16 hp
    subst hl
    have hat : ∀ h, (pre ++ ((Cnd.Tm.lf c).code ++ post))[pre.length]'h = c := fun h => by simp [Cnd.Tm.code]
    refine condBegin_core _ P n pcap pre.length 0 (fun _ => pre.length) w hn hp h16 (by rw [← hn]; simp [Cnd.Tm.code]) ?_ rfl (fun _ _ => by simp [Cnd.Tm.code] at hn; omega) (by decide) (fun k hk => absurd hk (Nat.not_lt_zero _))
    rw [hat, hcs _ (hr c (by simp [Cnd.Tm.code]))]
    have : Cnd.sz c.1 = 0 := hok
    rw [this]
  | nt c u ih =>
    intro l P n pcap pre post w hok hl hr hn h16 hp
    subst hl
    have hlen : n = pre.length + u.code.length + 1 + post.length := by rw [← hn]; simp [Cnd.Tm.code]; omega
    have hat : ∀ h, (pre ++ ((Cnd.Tm.nt c u).code ++ post))[pre.length + u.code.length]'h = c := fun h => by
      simp only [Cnd.Tm.code, List.append_assoc]
      rw [List.getElem_append_right (by omega), List.getElem_append_right (by omega)]
      simp
    have hcb := ih _ P n pcap pre ([c] ++ post) w hok.2 (by simp [Cnd.Tm.code]) hr hn h16 hp
    have := condBegin_core _ P n pcap (pre.length + u.code.length) 1 (fun k => if k = 0 then pre.length + u.code.length else pre.length) w hn hp h16 (by omega) (by
      rw [hat, hcs _ (hr c (by simp [Cnd.Tm.code]))]
      have : Cnd.sz c.1 = 1 := hok.1
      rw [this]) rfl (fun k _ => by split <;> omega) (by decide) (fun k hk => by
      obtain rfl : k = 0 := by omega
      exact hcb)
    rw [show pre.length + (Cnd.Tm.nt c u).code.length = pre.length + u.code.length + 1 by simp [Cnd.Tm.code]; omega]
    exact this
  | jn c a b iha ihb =>
    intro l P n pcap pre post w hok hl hr hn h16 hp
    subst hl
    have hlen : n = pre.length + a.code.length + b.code.length + 1 + post.length := by rw [← hn]; simp [Cnd.Tm.code]; omega
    have hat : ∀ h, (pre ++ ((Cnd.Tm.jn c a b).code ++ post))[pre.length + a.code.length + b.code.length]'h = c := fun h => by
      simp only [Cnd.Tm.code, List.append_assoc]
      rw [List.getElem_append_right (by omega), List.getElem_append_right (by omega), List.getElem_append_right (by omega)]
      have e : pre.length + a.code.length + b.code.length - pre.length - a.code.length - b.code.length = 0 := by omega
      simp only [e, List.cons_append, List.getElem_cons_zero]
    have hca := iha _ P n pcap pre (b.code ++ ([c] ++ post)) w hok.2.1 (by simp [Cnd.Tm.code]) hr hn h16 hp
    have hcb := ihb _ P n pcap (pre ++ a.code) ([c] ++ post) w hok.2.2 (by simp [Cnd.Tm.code]) hr hn h16 hp
    rw [List.length_append] at hcb
    have := condBegin_core _ P n pcap (pre.length + a.code.length + b.code.length) 2 (fun k => if k = 0 then pre.length + a.code.length + b.code.length else if k = 1 then pre.length + a.code.length else pre.length) w hn hp h16 (by omega) (by
      rw [hat, hcs _ (hr c (by simp [Cnd.Tm.code]))]
      have : Cnd.sz c.1 = 2 := hok.1
      rw [this]) rfl (fun k _ => by (repeat' split) <;> omega) (by decide) (fun k hk => by
      rcases (by omega : k = 0 ∨ k = 1) with rfl | rfl
      · exact hcb
      · exact hca)
    rw [show pre.length + (Cnd.Tm.jn c a b).code.length = pre.length + a.code.length + b.code.length + 1 by simp [Cnd.Tm.code]; omega]
    exact this
end Go.Proofs.Ytpheegfanljeeaa
end
section
namespace Hy.Cnd
theorem askd_four {col k : Int} {n : Nat} {s : ByteArray} {x : Cel} : askd (4, col, k, n, s) x = 2 * b2 (decide (x.1 = 0)) := by unfold askd; rfl
theorem askd_null {c : Cnd} {x : Cel} (h4 : c.1 ≠ 4) (h : x.1 = 0) : askd c x = 1 := by unfold askd; rw [if_neg h4, if_pos h]
theorem askd_one {col k : Int} {n : Nat} {s : ByteArray} {x : Cel} (h : x.1 ≠ 0) : askd (1, col, k, n, s) x = 2 * b2 (decide (x = (k, n, s))) := by unfold askd; rw [if_neg (show ¬ (1 : Int) = 4 by decide), if_neg h, if_pos rfl]
theorem askd_two {col k : Int} {n : Nat} {s : ByteArray} {x : Cel} (h : x.1 ≠ 0) : askd (2, col, k, n, s) x = 2 * b2 (Cel.less x (k, n, s)) := by unfold askd; rw [if_neg (show ¬ (2 : Int) = 4 by decide), if_neg h, if_neg (show ¬ (2 : Int) = 1 by decide), if_pos rfl]
theorem askd_three {col k : Int} {n : Nat} {s : ByteArray} {x : Cel} (h : x.1 ≠ 0) : askd (3, col, k, n, s) x = 2 * b2 (Cel.less (k, n, s) x) := by unfold askd; rw [if_neg (show ¬ (3 : Int) = 4 by decide), if_neg h, if_neg (show ¬ (3 : Int) = 1 by decide), if_neg (show ¬ (3 : Int) = 2 by decide)]
end Hy.Cnd
namespace Go.Proofs.Ytpheegfanljeeaa
open Go.RowKit Hy
theorem infoCond : (Try.prog.info? 39).map (·.size) = some 5 := by kernel_rfl
set_option maxHeartbeats 1600000 in
theorem condOf_leaf (c : Cnd) (P R : Option Addr) (pcap m rcap j : Nat) (row : List Cel) (w : World) (hp : Rd w P (cns [c])) (hop : 1 ≤ c.1 ∧ c.1 ≤ 4) (hcol : c.2.1 = (j : Int)) (hj : j < m) (hm : row.length = m) (hr : Rd w R (cls row)) (hml : m ≤ 140737488355328)
    (hs : c.2.2.2.2.size ≤ 140737488355328) (hrs : ∀ x ∈ row, x.2.2.size ≤ 140737488355328) :
    Calls Try.prog 42 #[.slice P 1 pcap, .slice R m rcap] w fun e w' => e = .returned (.int .i64 (Cnd.askd c (row.getD j Cnd.O) : Nat)) ∧ Ext w w' := by
  obtain ⟨b1, o1, e1, l1, c1⟩ := hp.cnds 0 (by simp)
  subst e1
  obtain ⟨d0, d1, d2, d3, d4⟩ := c1 0 (by simp)
  simp only [List.getElem_cons_zero, Nat.zero_mul, Nat.add_zero] at d0 d1 d2 d3 d4
  have hjr : j < row.length := by omega
  obtain ⟨b2, o2, e2, l2, c2⟩ := hr.cels j hjr
  subst e2
  obtain ⟨r0, r1, r2⟩ := c2 j hjr
  have hx : row.getD j Cnd.O = row[j] := by rw [List.getD_eq_getElem?_getD, List.getElem?_eq_getElem hjr]; rfl
  have hxs := hrs _ (List.getElem_mem hjr)
  rw [hx]
  clear c1 c2 hp hr hx hrs hm
  generalize row[j] = x at *
  obtain ⟨op, col, k, n, s⟩ := c
  obtain ⟨k', n', s'⟩ := x
  simp only at d0 d1 d2 d3 d4 r0 r1 r2 hop hcol hs hxs
  subst hcol
  have hjI : (j : Int) < (m : Int) := by omega
  have hmI : (m : Int) ≤ 140737488355328 := by omega
  have HL1 := hid (fun wx => cellLess_any (k', n', s') (k, n, s) wx hxs hs)
  have HL2 := hid (fun wx => cellLess_any (k, n, s) (k', n', s') wx hs hxs)
  have hq := fun w => cel_eql k' k n' n s' s w
  have hways : (op = 4 ∧ k' = 0) ∨ (op = 4 ∧ k' ≠ 0) ∨ (op ≠ 4 ∧ k' = 0) ∨ (op = 1 ∧ k' ≠ 0) ∨ (op = 2 ∧ k' ≠ 0) ∨ (op = 3 ∧ k' ≠ 0) := by omega
  clear hs hxs hj hjr
  rcases hways with ⟨rfl, rfl⟩ | ⟨rfl, h0⟩ | ⟨h4, rfl⟩ | ⟨rfl, h0⟩ | ⟨rfl, h0⟩ | ⟨rfl, h0⟩
  · rw [Cnd.askd_four]
    clear hop hq HL1 HL2
    go_enter Try.func42, Try.ntmps42
    go_wp2
    go_returns
    exact ⟨rfl, ((ext_refl _).new _).new _⟩
  · rw [Cnd.askd_four, decide_eq_false (show ¬ ((k', n', s') : Cel).1 = 0 from h0)]
    have e0 : (k' == 0) = false := beq_eq_false_iff_ne.2 h0
    clear hop hq HL1 HL2 h0
    go_enter Try.func42, Try.ntmps42
    go_wp2
    go_returns
    exact ⟨rfl, ((ext_refl _).new _).new _⟩
  · rw [Cnd.askd_null h4 rfl]
    have e4 : (op != 4) = true := by simp; exact h4
    have e7 : (op == 7) = false := by rw [beq_eq_false_iff_ne]; omega
    have e5 : (op ≥ 5) = False := by simp; omega
    obtain ⟨g1, g2⟩ := hop
    clear hq HL1 HL2 h4
    go_enter Try.func42, Try.ntmps42
    go_wp2
    go_returns
    exact ⟨rfl, ((ext_refl _).new _).new _⟩
  · rw [Cnd.askd_one h0]
    have e0 : (k' == 0) = false := beq_eq_false_iff_ne.2 h0
    clear hop HL1 HL2 h0
    generalize decide (((k', n', s') : Cel) = (k, n, s)) = q at *
    cases q
    all_goals (
      go_enter Try.func42, Try.ntmps42
      go_wp2
      go_returns
      exact ⟨rfl, ((ext_refl _).new _).new _⟩)
  · rw [Cnd.askd_two h0]
    have e0 : (k' == 0) = false := beq_eq_false_iff_ne.2 h0
    clear hop HL2 h0 hq
    generalize Cel.less (k', n', s') (k, n, s) = q at *
    cases q
    all_goals (
      go_enter Try.func42, Try.ntmps42
      go_upto_region 3 with fail
      refine wp_gen (fun w' => Ext w w' ∧ Blk w' w.heap.size 39 #[.int .i64 2, .int .i64 j, .int .i64 k, .int .u64 (n : Int), .string s]) ⟨(ext_refl _).new _, Blk.new _ _ _⟩ ?_
      rintro wz ⟨B, B1⟩
      have l3 := B1.lt
      have a0 := B1.cell 0
      have a1 := B1.cell 1
      have a2 := B1.cell 2
      have a3 := B1.cell 3
      have a4 := B1.cell 4
      have r0z := ext_cell B r0
      have r1z := ext_cell B r1
      have r2z := ext_cell B r2
      clear r0 r1 r2 d0 d1 d2 d3 d4
      go_wp2_with (go_at_call 76; go_loud (refine (HL1.out _).mono ?_; rintro e w2 ⟨rfl, x2⟩; have a0' := ext_cell x2 ((B1.alloc _).cell 0); have X2 := hid ((B.new _).then x2); clear x2))
      go_returns
      exact ⟨rfl, X2.out⟩)
  · rw [Cnd.askd_three h0]
    have e0 : (k' == 0) = false := beq_eq_false_iff_ne.2 h0
    clear hop HL1 h0 hq
    generalize Cel.less (k, n, s) (k', n', s') = q at *
    cases q
    all_goals (
      go_enter Try.func42, Try.ntmps42
      go_upto_region 3 with fail
      refine wp_gen (fun w' => Ext w w' ∧ Blk w' w.heap.size 39 #[.int .i64 3, .int .i64 j, .int .i64 k, .int .u64 (n : Int), .string s]) ⟨(ext_refl _).new _, Blk.new _ _ _⟩ ?_
      rintro wz ⟨B, B1⟩
      have l3 := B1.lt
      have a0 := B1.cell 0
      have a1 := B1.cell 1
      have a2 := B1.cell 2
      have a3 := B1.cell 3
      have a4 := B1.cell 4
      have r0z := ext_cell B r0
      have r1z := ext_cell B r1
      have r2z := ext_cell B r2
      clear r0 r1 r2 d0 d1 d2 d3 d4
      go_wp2_with (go_at_call 76; go_loud (refine (HL2.out _).mono ?_; rintro e w2 ⟨rfl, x2⟩; have X2 := hid ((B.new _).then x2); clear x2))
      go_returns
      exact ⟨rfl, X2.out⟩)
set_option maxHeartbeats 1600000 in
theorem condOf_nt (c : Cnd) (r : List Cnd) (P R : Option Addr) (q pcap m rcap v : Nat) (w : World) (hp : Rd w P (cns (r ++ [c]))) (hq : r.length = q) (hop : c.1 = 7) (h16 : q + 1 ≤ 16) (hcap : q + 1 ≤ pcap) (hv : v ≤ 2)
    (HU : ∀ wx, Ext w wx → Calls Try.prog 42 #[.slice P q pcap, .slice R m rcap] wx fun e w' => e = .returned (.int .i64 (v : Nat)) ∧ Ext wx w') :
    Calls Try.prog 42 #[.slice P (q + 1) pcap, .slice R m rcap] w fun e w' => e = .returned (.int .i64 (Cnd.jn c.1 v v : Nat)) ∧ Ext w w' := by
  have hjv : ((Cnd.jn c.1 v v : Nat) : Int) = 2 - (v : Int) := by
    rw [hop]; unfold Cnd.jn; rw [if_neg (by decide), if_neg (by decide)]; omega
  rw [hjv]
  have hvI : (v : Int) ≤ 2 := by omega
  obtain ⟨b1, o1, e1, l1, c1⟩ := hp.cnds q (by rw [List.length_append, hq]; simp)
  have hS1 : ∀ w, (Instr.sliceAt 22 (.slice P (q + 1) pcap) none (some (.int .i64 (q : Int))) none).run Try.prog w = .ok (.slice P q pcap) w := fun w => sl_to Try.underlying22 infoCond P (q + 1) pcap .i64 q (by omega) w
  subst e1
  obtain ⟨d0, d1, d2, d3, d4⟩ := c1 q (by rw [List.length_append, hq]; simp)
  have hat : ∀ h, (r ++ [c])[q]'h = c := fun h => by rw [List.getElem_append_right (by omega)]; simp
  rw [hat] at d0 d1 d2 d3 d4
  obtain ⟨op, col, k, n, s⟩ := c
  simp only at d0 d1 d2 d3 d4 hop
  subst hop
  have HUU := hid HU
  have hqI : (q : Int) + 1 ≤ 16 := by omega
  have hq1 : (((q + 1 : Nat) : Nat) : Int) - 1 = (q : Int) := by omega
  clear c1 hp hat HU hjv hq h16 hcap hv
  go_enter Try.func42, Try.ntmps42
  go_wp2_with (go_at_call 42; go_loud (refine (HUU.out _ ((ext_refl _).new _)).mono ?_; rintro e w2 ⟨rfl, x2⟩; have X2 := hid (((ext_refl w).new _).then x2); clear x2))
  go_returns
  exact ⟨rfl, X2.out⟩
end Go.Proofs.Ytpheegfanljeeaa
end
section
namespace Go.Proofs.Ytpheegfanljeeaa
open Go.RowKit Hy
set_option maxHeartbeats 3200000 in
set_option maxRecDepth 100000 in
theorem condOf_jn (c : Cnd) (r : List Cnd) (P R B2 : Option Addr) (q ka n2 c2 pcap m rcap x y : Nat) (w : World) (hp : Rd w P (cns (r ++ [c]))) (hq : r.length = q) (hop : c.1 = 5 ∨ c.1 = 6) (h16 : q + 1 ≤ 16) (hcap : q + 1 ≤ pcap) (hka : ka ≤ q) (hx : x ≤ 2) (hy : y ≤ 2)
    (hB2 : B2 = slF P ka pcap 5) (hn2 : n2 = q - ka) (hc2 : c2 = pcap - ka)
    (HB : ∀ wx, Ext w wx → Calls Try.prog 75 #[.slice P (q + 1) pcap, .int .i64 (q : Nat)] wx fun e w' => e = .returned (.int .i64 (ka : Nat)) ∧ wx = w')
    (HX : ∀ wx, Ext w wx → Calls Try.prog 42 #[.slice P ka pcap, .slice R m rcap] wx fun e w' => e = .returned (.int .i64 (x : Nat)) ∧ Ext wx w')
    (HY : ∀ wx, Ext w wx → Calls Try.prog 42 #[.slice B2 n2 c2, .slice R m rcap] wx fun e w' => e = .returned (.int .i64 (y : Nat)) ∧ Ext wx w') :
    Calls Try.prog 42 #[.slice P (q + 1) pcap, .slice R m rcap] w fun e w' => e = .returned (.int .i64 (Cnd.jn c.1 x y : Nat)) ∧ Ext w w' := by
  obtain ⟨b1, o1, e1, l1, c1⟩ := hp.cnds q (by rw [List.length_append, hq]; simp)
  have hS1 : ∀ w, (Instr.sliceAt 22 (.slice P (q + 1) pcap) none (some (.int .i64 (ka : Int))) none).run Try.prog w = .ok (.slice P ka pcap) w := fun w => sl_to Try.underlying22 infoCond P (q + 1) pcap .i64 ka (by omega) w
  have hS2 : ∀ w, (Instr.sliceAt 22 (.slice P (q + 1) pcap) (some (.int .i64 (ka : Int))) (some (.int .i64 (q : Int))) none).run Try.prog w = .ok (.slice B2 n2 c2) w := fun w => by rw [hB2, hn2, hc2]; exact sl_mid Try.underlying22 infoCond P (q + 1) pcap .i64 .i64 ka q (by omega) (by omega) w
  subst e1
  obtain ⟨d0, d1, d2, d3, d4⟩ := c1 q (by rw [List.length_append, hq]; simp)
  have hat : ∀ h, (r ++ [c])[q]'h = c := fun h => by rw [List.getElem_append_right (by omega)]; simp
  rw [hat] at d0 d1 d2 d3 d4
  obtain ⟨op, col, k, n, s⟩ := c
  simp only at d0 d1 d2 d3 d4 hop ⊢
  have HBB := hid HB
  have HXX := hid HX
  have HYY := hid HY
  have hqI : (q : Int) + 1 ≤ 16 := by omega
  have hq1 : (((q + 1 : Nat) : Nat) : Int) - 1 = (q : Int) := by omega
  have hwq : IntKind.i64.wrap ((q : Int) + 1 - 1) = (q : Int) := by rw [IntKind.wrap_i64]; omega
  have hwq0 : IntKind.i64.wrap (((q + 1 : Nat) : Int) - 1) = (q : Int) := by rw [IntKind.wrap_i64]; omega
  have hwq2 : IntKind.i64.wrap (q : Int) = (q : Int) := by rw [IntKind.wrap_i64]; omega
  have hOP := hid hop
  have hXX2 := hid hx
  have hYY2 := hid hy
  have e7 : (op == 7) = false := by rw [beq_eq_false_iff_ne]; omega
  have e5 : (5 : Int) ≤ op := by omega
  clear c1 hp hat HB HX HY hq h16 hcap hx hy hB2 hn2 hc2 hka hop
  go_enter Try.func42, Try.ntmps42
  go_wp2_with (go_at_call 75; go_loud (refine (HBB.out _ ((ext_refl _).new _)).mono ?_; rintro e w2 ⟨rfl, rfl⟩))
  refine wp_gen (fun w' => Ext w w' ∧ Blk w' w.heap.size 39 #[.int .i64 op, .int .i64 col, .int .i64 k, .int .u64 (n : Int), .string s]) ⟨(ext_refl _).new _, Blk.new _ _ _⟩ ?_
  rintro wz ⟨B, B1⟩
  have HZ := hid B
  have HZ1 := hid B1
  clear d0 d1 d2 d3 d4 B B1
  refine wp_region_walk [(0, true), (1, true), (2, true), (3, true), (5, true), (6, true), (7, true), (8, true), (9, true), (10, true), (4, false), (11, false), (12, true), (13, true)] (by kernel_rfl) (by kernel_rfl) (fun _ _ _ _ _ h => h) (by kernel_rfl) (by rfl) ?_
  simp only [List.filterMap_cons, List.filterMap_nil, List.getElem?_toArray, List.getElem?_cons_zero, List.getElem?_cons_succ, Option.map_some]
  repeat (refine wpM_val (by rfl) ?_; intro K hK; go_big_quiet_op; go_big_quiet_on)
  have Y0 : Ext wz wz.drew := Ext.draw (ext_refl wz)
  refine wpM_do (by rfl) ?_
  intro K hK
  go_simp
  refine Calls.mono (HXX.out _ (HZ.out.then Y0)) ?_
  rintro e w2 ⟨rfl, hx⟩
  have Y1 := Y0.then hx
  refine hK _ _ Y1 ?_
  clear K hK hx
  refine wpM_do (by rfl) ?_
  intro K hK
  go_simp
  refine Calls.mono (HYY.out _ (HZ.out.then Y1)) ?_
  rintro e w3 ⟨rfl, hx⟩
  have Y2 := Y1.then hx
  refine hK _ _ Y2 ?_
  clear K hK hx
  repeat (refine wpM_val (by rfl) ?_; intro K hK; go_big_quiet_op; go_big_quiet_on)
  refine wpM_nil ?_
  have X3 := hid (HZ.out.then Y2)
  have B3 := HZ1.out.keep Y2
  have l3 := B3.lt
  have a0 := B3.cell 0
  clear B3 Y0 Y1 Y2 e7 e5 hS1 hS2
  have hop := hOP.out
  have hx := hXX2.out
  have hy := hYY2.out
  clear hOP hXX2 hYY2 HXX HYY HBB
  rcases (by omega : x = 0 ∨ x = 1 ∨ x = 2) with rfl | rfl | rfl <;> rcases (by omega : y = 0 ∨ y = 1 ∨ y = 2) with rfl | rfl | rfl <;> rcases hop with rfl | rfl
  all_goals (
    clear hx hy
    go_wp2
    go_returns
    exact ⟨by simp [Cnd.jn], X3.out⟩)
end Go.Proofs.Ytpheegfanljeeaa
end
section
namespace Hy.Cnd
theorem alone_size16 {kind : Int} {c : Cel} (h : Cel.alone kind c = 0) : c.2.2.size ≤ 16 := by
  unfold Cel.alone at h
  by_cases h1 : c.1 ≠ 0 ∧ c.1 ≠ kind
  · rw [if_pos h1] at h; omega
  · rw [if_neg h1] at h
    by_cases h2 : (c.1 ≠ 1 ∧ c.2.1 ≠ 0) ∨ (c.1 ≠ 2 ∧ c.2.2.size ≠ 0)
    · rw [if_pos h2] at h; omega
    · rw [if_neg h2] at h
      by_cases h3 : 16 < c.2.2.size
      · rw [if_pos h3] at h; omega
      · omega
/-- what is known of a leaf that is right -/
theorem leaf_ok {ks : List Int} {c : Cnd} (h : al ks c = 0) (hs : sz c.1 = 0) :
    0 ≤ c.2.1 ∧ c.2.1 < (ks.length : Int) ∧ 1 ≤ c.1 ∧ c.1 ≤ 4 ∧ c.2.2.2.2.size ≤ 16 ∧ (c.1 = 4 → c.2.2 = O) ∧ (c.1 ≠ 4 → Cel.alone (ks.getD c.2.1.toNat 0) c.2.2 = 0 ∧ c.2.2.1 ≠ 0) ∧ (ks.getD c.2.1.toNat 0 = 1 ∨ ks.getD c.2.1.toNat 0 = 2) := by
  have hr := al_rng h
  have h4 : c.1 ≤ 4 := by
    unfold sz at hs
    by_cases h1 : c.1 = 5 ∨ c.1 = 6
    · rw [if_pos h1] at hs; omega
    · rw [if_neg h1] at hs
      by_cases h2 : c.1 = 7
      · rw [if_pos h2] at hs; omega
      · omega
  obtain ⟨op, col, cl⟩ := c
  simp only at hr h4 hs ⊢
  have hl : lf ks (op, col, cl) = 0 := by
    unfold al at h
    rw [if_neg (by simp only; omega), if_pos (show sz (op, col, cl).1 = 0 from hs)] at h
    exact h
  by_cases h0 : col < 0 ∨ (ks.length : Int) ≤ col
  · rw [lf_out h0] at hl; omega
  · obtain ⟨j, rfl⟩ : ∃ j : Nat, col = (j : Int) := ⟨col.toNat, by omega⟩
    have hj : j < ks.length := by omega
    rw [lf_in j hj] at hl
    have hg : ks.getD ((j : Int)).toNat 0 = ks[j] := by simp [hj]
    rw [hg]
    rcases lfk_ways ks[j] op cl with ⟨g1, h1⟩ | ⟨g1, g2, g3, h1⟩ | ⟨g1, g2, g3, h1⟩ | ⟨g1, g2, g3, h1⟩ | ⟨g1, g2, g3, g4, h1⟩ | ⟨g1, g2, g3, g4, h1⟩
    · omega
    · refine ⟨by omega, by omega, hr.1, h4, by rw [g3]; decide, fun _ => g3, fun h => absurd g2 h, g1⟩
    · omega
    · omega
    · omega
    · exact ⟨by omega, by omega, hr.1, h4, alone_size16 g3, fun h => absurd h g2, fun _ => ⟨g3, g4⟩, g1⟩
/-- what a leaf is of a row -/
def askf (row : List Cel) (c : Cnd) : Nat := askd c (row.getD c.2.1.toNat O)
theorem askf_le (row : List Cel) (c : Cnd) : askf row c ≤ 2 := askd_le _ _
theorem ev_le {B : Nat} {f : Cnd → Nat} {j : Int → Nat → Nat → Nat} (hf : ∀ c, f c ≤ B) (hj : ∀ op x y, x ≤ B → y ≤ B → j op x y ≤ B) (t : Tm) : t.ev f j ≤ B := by
  induction t with
  | lf c => exact hf c
  | nt c t ih => exact hj _ _ _ ih ih
  | jn c a b iha ihb => exact hj _ _ _ iha ihb
theorem sz1 {op : Int} (h : sz op = 1) : op = 7 := by
  unfold sz at h
  by_cases h1 : op = 5 ∨ op = 6
  · rw [if_pos h1] at h; omega
  · rw [if_neg h1] at h
    by_cases h2 : op = 7
    · exact h2
    · rw [if_neg h2] at h; omega
theorem sz2 {op : Int} (h : sz op = 2) : op = 5 ∨ op = 6 := by
  unfold sz at h
  by_cases h1 : op = 5 ∨ op = 6
  · exact h1
  · rw [if_neg h1] at h; split at h <;> omega
end Hy.Cnd
namespace Go.Proofs.Ytpheegfanljeeaa
open Go.RowKit Hy
theorem condOf_tree (ks : List Int) (row : List Cel) (R : Option Addr) (m rcap : Nat) (hm : row.length = m) (hk : ks.length = m) (hml : m ≤ 140737488355328) (hrs : ∀ x ∈ row, x.2.2.size ≤ 140737488355328) (t : Cnd.Tm) :
    ∀ (P : Option Addr) (n pcap : Nat) (w : World), t.ok → t.code.length = n → n ≤ 16 → n ≤ pcap → Rd w P (cns t.code) → Rd w R (cls row) → (∀ c ∈ t.code, Cnd.al ks c = 0) →
    Calls Try.prog 42 #[.slice P n pcap, .slice R m rcap] w fun e w' => e = .returned (.int .i64 (t.ev (Cnd.askf row) Cnd.jn : Nat)) ∧ Ext w w' := by
  have hev : ∀ u : Cnd.Tm, u.ev (Cnd.askf row) Cnd.jn ≤ 2 := fun u => Cnd.ev_le (Cnd.askf_le row) (fun op x y hx hy => Cnd.jn_le hx hy) u
  induction t with
  | lf c =>
    intro P n pcap w hok hn h16 hcap hp hr hal
    obtain ⟨h0, h1, h2, h3, h4, _⟩ := Cnd.leaf_ok (hal c (by simp [Cnd.Tm.code])) hok
    subst hn
    exact condOf_leaf c P R pcap m rcap c.2.1.toNat row w hp ⟨h2, h3⟩ (by omega) (by omega) hm hr hml (by omega) hrs
  | nt c u ih =>
    intro P n pcap w hok hn h16 hcap hp hr hal
    have hq : n = u.code.length + 1 := by rw [← hn]; simp [Cnd.Tm.code]
    subst hq
    refine condOf_nt c u.code P R u.code.length pcap m rcap _ w hp rfl (Cnd.sz1 hok.1) h16 hcap (hev u) fun wx hx => ?_
    exact ih P u.code.length pcap wx hok.2 rfl (by omega) (by omega) (by
      have := hp.keep hx
      simp only [Cnd.Tm.code, cns_app] at this
      exact this.pre) (hr.keep hx) (fun d hd => hal d (by simp [Cnd.Tm.code, hd]))
  | jn c a b iha ihb =>
    intro P n pcap w hok hn h16 hcap hp hr hal
    have hq : n = (a.code ++ b.code).length + 1 := by rw [← hn]; simp [Cnd.Tm.code]; omega
    have hlen : (a.code ++ b.code).length = a.code.length + b.code.length := List.length_append
    have hcode : (Cnd.Tm.jn c a b).code = (a.code ++ b.code) ++ [c] := by simp [Cnd.Tm.code]
    have hal2 : ∀ d ∈ (a.code ++ b.code) ++ [c], Cnd.al ks d = 0 := by rw [← hcode]; exact hal
    rw [hcode] at hp
    subst hq
    refine condOf_jn c (a.code ++ b.code) P R (slF P a.code.length pcap 5) (a.code ++ b.code).length a.code.length b.code.length (pcap - a.code.length) pcap m rcap _ _ w hp rfl (Cnd.sz2 hok.1) h16 hcap (by omega) (hev a) (hev b) rfl (by omega) rfl ?_ ?_ ?_
    · intro wx hx
      have := condBegin_any b ((a.code ++ b.code) ++ [c]) P ((a.code ++ b.code).length + 1) pcap a.code [c] wx hok.2.2 (by simp) (fun d hd => Cnd.al_rng (hal2 d hd)) (by simp; omega) h16 (hp.keep hx)
      rw [hlen]
      rw [hlen] at this
      exact this
    · intro wx hx
      exact iha P a.code.length pcap wx hok.2.1 rfl (by omega) (by omega) (by
        have := hp.keep hx
        rw [List.append_assoc, cns_app] at this
        exact this.pre) (hr.keep hx) (fun d hd => hal2 d (by simp [hd]))
    · intro wx hx
      refine ihb (slF P a.code.length pcap 5) b.code.length (pcap - a.code.length) wx hok.2.2 rfl (by omega) (by omega) ?_ (hr.keep hx) (fun d hd => hal2 d (by simp [hd]))
      have h1 := Rd.from (f := cnd5) (m := 5) (fun _ => rfl) (hp.keep hx) a.code.length pcap (by simp; omega)
      rw [List.append_assoc, List.drop_left] at h1
      have h2 : Rd wx (slF P a.code.length pcap 5) (cns (b.code ++ [c])) := h1
      rw [cns_app] at h2
      exact h2.pre
/-- of a condition that is right -/
theorem condOf_any (ks : List Int) (p : List Cnd) (row : List Cel) (P R : Option Addr) (n pcap m rcap : Nat) (w : World) (hr : Cnd.chk ks p = 0) (hn : p.length = n) (hcap : n ≤ pcap) (hp : Rd w P (cns p)) (hm : row.length = m) (hk : ks.length = m) (hml : m ≤ 140737488355328) (hrr : Rd w R (cls row)) (hrs : ∀ x ∈ row, x.2.2.size ≤ 140737488355328) :
    Calls Try.prog 42 #[.slice P n pcap, .slice R m rcap] w fun e w' => e = .returned (.int .i64 (Cnd.val (Cnd.askf row) Cnd.jn p : Nat)) ∧ Ext w w' := by
  have hal := Cnd.chk_al hr
  obtain ⟨t, ht, rfl, h16⟩ := Cnd.right_tree hr
  rw [Cnd.val_code _ _ t ht]
  exact condOf_tree ks row R m rcap hm hk hml hrs t P n pcap w ht hn (by omega) hcap hp hrr hal
set_option maxHeartbeats 800000 in
theorem rawLeaf_any (c : Cnd) (l : List Cel) (A : Option Addr) (n cap g : Nat) (w : World) (hn : l.length = n) (hr : Rd w A (cls l)) (hg : w.cell? ⟨g, 0, none⟩ = some (.slice A n cap)) (h0 : 0 ≤ c.2.1) (h1 : c.2.1 < (n : Int)) :
    Calls Try.prog 71 #[cndV c, .pointer (some ⟨g, 0, none⟩)] w fun e w' => e = .returned (.int .i64 (Cnd.askf l c : Nat)) ∧ Ext w w' := by
  obtain ⟨op, col, k, nn, s⟩ := c
  simp only at h0 h1
  obtain ⟨j, rfl⟩ : ∃ j : Nat, col = (j : Int) := ⟨col.toNat, by omega⟩
  have hj : j < l.length := by omega
  obtain ⟨b, o, rfl, lb, cb⟩ := hr.cels j hj
  obtain ⟨r0, r1, r2⟩ := cb j hj
  have hx : Cnd.askf l (op, (j : Int), k, nn, s) = Cnd.askd (op, (j : Int), k, nn, s) l[j] := by
    unfold Cnd.askf; simp only [Int.toNat_natCast]; rw [List.getD_eq_getElem?_getD, List.getElem?_eq_getElem hj]; rfl
  rw [hx]
  clear cb hr hx hn
  generalize l[j] = x at *
  clear hj
  obtain ⟨k', n', s'⟩ := x
  simp only at r0 r1 r2
  have G := hid (fun wx => asked_any (op, (j : Int), k, nn, s) (k', n', s') wx)
  generalize Cnd.askd (op, (j : Int), k, nn, s) (k', n', s') = v at *
  have lg := block_lt_of_cell hg
  simp only at lg
  go_enter Try.func71, Try.ntmps71
  go_wp2
  refine wp_gen (fun w' => Ext w w' ∧ Blk w' w.heap.size 39 #[.int .i64 op, .int .i64 j, .int .i64 k, .int .u64 (nn : Int), .string s]) ⟨(ext_refl _).new _, Blk.new _ _ _⟩ ?_
  rintro wz ⟨B, B1⟩
  have a0 := cell_regrown (B1.cell 0)
  have a1 := cell_regrown (B1.cell 1)
  have a2 := cell_regrown (B1.cell 2)
  have a3 := cell_regrown (B1.cell 3)
  have a4 := cell_regrown (B1.cell 4)
  have hgr := cell_regrown (ext_cell B hg)
  have r0r := cell_regrown (ext_cell B r0)
  have r1r := cell_regrown (ext_cell B r1)
  have r2r := cell_regrown (ext_cell B r2)
  clear hg r0 r1 r2
  refine wp_region_quiet_below (by kernel_rfl) (by kernel_rfl) ?_
  repeat (go_big_quiet_step ((go_at_call 72; exact Gives.quiet G.out _ _ _)))
  refine wpQuiet_nil ?_
  intro w9 hw9
  obtain ⟨p, rfl⟩ := hw9
  go_wp2
  go_returns
  exact ⟨rfl, B.then (ext_regrown wz p)⟩
theorem raw_any' (ks : List Int) (p : List Cnd) (row : List Cel) (P R : Option Addr) (n pcap m rcap : Nat) (w : World) (hr : Cnd.chk ks p = 0) (hn : p.length = n) (hp : Rd w P (cns p)) (hm : row.length = m) (hk : ks.length = m) (hrr : Rd w R (cls row)) :
    Calls Try.prog 40 #[.slice P n pcap, .slice R m rcap] w fun e w' => e = .returned (.int .i64 (Cnd.val (Cnd.askf row) Cnd.jn p : Nat)) ∧ Ext w w' := by
  have hal := Cnd.chk_al hr
  have HW := hid (fun (g : Nat) wx (hx : Ext w wx) (hg : wx.cell? ⟨g, 0, none⟩ = some (.slice R m rcap)) => walkI_any ks p (Cnd.askf row) P n pcap g wx hr hn (hp.keep hx) (fun c _ => Cnd.askf_le row c) (fun c hc hs wy hy => by
    obtain ⟨h0, h1, _⟩ := Cnd.leaf_ok (hal c hc) hs
    exact rawLeaf_any c row R m rcap g wy hm (hrr.keep (hx.then hy)) (ext_cell hy hg) h0 (by omega)))
  generalize Cnd.val (Cnd.askf row) Cnd.jn p = v at *
  clear hr hn hp hm hk hrr hal
  go_enter Try.func40, Try.ntmps40
  go_wp2_with (go_at_call 70; go_loud (refine (HW.out _ _ ((ext_refl _).new _) ((Blk.new _ _ _).cell 0)).mono ?_; rintro e w2 ⟨rfl, x2⟩; have X2 := hid (((ext_refl w).new _).then x2); clear x2))
  go_returns
  exact ⟨rfl, X2.out⟩
end Go.Proofs.Ytpheegfanljeeaa
end
section
namespace Hy.Cnd
/-- what is wrong with a row: cell by cell, each by its column's kind -/
def rchk : List Int → List Cel → Nat
  | k :: ks, c :: r => if Cel.cchk k [c] ≠ 0 then Cel.cchk k [c] else rchk ks r
  | _, _ => 0
theorem rchk_bad {ks : List Int} {row : List Cel} {i : Nat} (hk : i < ks.length) (hr : i < row.length) (h : Cel.cchk ks[i] [row[i]] ≠ 0) : rchk (ks.drop i) (row.drop i) = Cel.cchk ks[i] [row[i]] := by
  rw [List.drop_eq_getElem_cons hk, List.drop_eq_getElem_cons hr]; simp only [rchk]; rw [if_pos h]
theorem rchk_next {ks : List Int} {row : List Cel} {i : Nat} (hk : i < ks.length) (hr : i < row.length) (h : Cel.cchk ks[i] [row[i]] = 0) : rchk (ks.drop i) (row.drop i) = rchk (ks.drop (i + 1)) (row.drop (i + 1)) := by
  rw [List.drop_eq_getElem_cons hk, List.drop_eq_getElem_cons hr]; simp only [rchk]; rw [if_neg (by omega)]
theorem rchk_end (ks : List Int) : rchk ks [] = 0 := by cases ks <;> rfl
theorem rchk_le (ks : List Int) (row : List Cel) : rchk ks row ≤ 7 := by
  induction ks generalizing row with
  | nil => exact Nat.zero_le _
  | cons k ks ih =>
    cases row with
    | nil => exact Nat.zero_le _
    | cons c r => simp only [rchk]; split; exact Cel.cchk_le _ _; exact ih _
/-- what is asked of a row -/
@[irreducible] def ask (ks : List Int) (p : List Cnd) (row : List Cel) : Nat × Nat :=
  if chk ks p ≠ 0 then (0, chk ks p) else if row.length ≠ ks.length then (0, 1) else if rchk ks row ≠ 0 then (0, rchk ks row) else (val (askf row) jn p, 0)
theorem ask_bad {ks : List Int} {p : List Cnd} {row : List Cel} (h : chk ks p ≠ 0) : ask ks p row = (0, chk ks p) := by unfold ask; rw [if_pos h]
theorem ask_len {ks : List Int} {p : List Cnd} {row : List Cel} (h : chk ks p = 0) (h2 : row.length ≠ ks.length) : ask ks p row = (0, 1) := by unfold ask; rw [if_neg (by omega), if_pos h2]
theorem ask_row {ks : List Int} {p : List Cnd} {row : List Cel} (h : chk ks p = 0) (h2 : row.length = ks.length) (h3 : rchk ks row ≠ 0) : ask ks p row = (0, rchk ks row) := by unfold ask; rw [if_neg (by omega), if_neg (by omega), if_pos h3]
theorem ask_ok {ks : List Int} {p : List Cnd} {row : List Cel} (h : chk ks p = 0) (h2 : row.length = ks.length) (h3 : rchk ks row = 0) : ask ks p row = (val (askf row) jn p, 0) := by unfold ask; rw [if_neg (by omega), if_neg (by omega), if_neg (by omega)]
end Hy.Cnd
namespace Go.Proofs.Ytpheegfanljeeaa
open Go.RowKit Hy
theorem infoCell : (Try.prog.info? 37).map (·.size) = some 3 := by kernel_rfl
set_option maxHeartbeats 3200000 in
set_option maxRecDepth 100000 in
theorem ask_any (ks : List Int) (p : List Cnd) (row : List Cel) (P K R : Option Addr) (n pcap m kcap r rcap : Nat) (w : World) (hn : p.length = n) (hp : Rd w P (cns p)) (hnl : n ≤ 140737488355328) (hm : ks.length = m) (hk : Rd w K (i64s ks)) (hml : m ≤ 140737488355328)
    (hrl : row.length = r) (hrr : Rd w R (cls row)) (hrll : r ≤ 140737488355328) (hrc : r ≤ rcap) :
    Calls Try.prog 14 #[.slice P n pcap, .slice K m kcap, .slice R r rcap] w fun e w' => e = .returned (.tuple #[.int .i64 ((Cnd.ask ks p row).1 : Nat), .int .i64 ((Cnd.ask ks p row).2 : Nat)]) ∧ Ext w w' := by
  have HCK := hid (pCheck_any ks p P K n pcap m kcap w hn hp hnl hm hk hml)
  have hc7 := Cnd.chk_le ks p
  have hmI : (m : Int) ≤ 140737488355328 := by omega
  have hrI : (r : Int) ≤ 140737488355328 := by omega
  by_cases h0 : Cnd.chk ks p = 0
  · rw [h0] at HCK
    by_cases h1 : r = m
    · subst h1
      have HKL := hid hm
      have HRL := hid hrl
      have HKR := hid hk
      have HRR := hid hrr
      have HV := hid (fun wx (hx : Ext w wx) => raw_any' ks p row P R n pcap r rcap wx h0 hn (hp.keep hx) hrl hm (hrr.keep hx))
      obtain ⟨V, hV⟩ : ∃ V, V = Cnd.val (Cnd.askf row) Cnd.jn p := ⟨_, rfl⟩
      rw [← hV] at HV
      have HRES := hid (show Cnd.ask ks p row = if Cnd.rchk (ks.drop 0) (row.drop 0) ≠ 0 then (0, Cnd.rchk (ks.drop 0) (row.drop 0)) else (V, 0) by
        by_cases h3 : Cnd.rchk ks row = 0
        · rw [Cnd.ask_ok h0 (by omega) h3, List.drop_zero, List.drop_zero, if_neg (by omega), hV]
        · rw [Cnd.ask_row h0 (by omega) h3, List.drop_zero, List.drop_zero, if_pos h3])
      obtain ⟨Z, hZ⟩ : ∃ Z, Z = Cnd.ask ks p row := ⟨_, rfl⟩
      rw [← hZ] at HRES ⊢
      have HRC := hid hrc
      clear hn hp hnl hm hk hml hrl hrr hrll hV hZ hc7 h0  hrc
      go_enter Try.func14, Try.ntmps14
      go_wp2_with (first | (go_at_call 17; go_loud (refine HCK.out.mono ?_; rintro e w1 ⟨rfl, x1⟩; have X1 := hid x1; clear x1)))
      go_loopw [10, 25] (fun _ c wr => ∃ k : Nat, k ≤ r ∧ c = .int .i64 k ∧ Hid (Z = if Cnd.rchk (ks.drop k) (row.drop k) ≠ 0 then (0, Cnd.rchk (ks.drop k) (row.drop k)) else (V, 0)) ∧ Ext w wr) (fun _ c _ => r - (intOf c).toNat)
      case atStart => exact ⟨0, Nat.zero_le _, rfl, HRES, X1.out⟩
      case round =>
        obtain ⟨k, hk, rfl, HI, X⟩ := hrel
        by_cases hlt : k < r
        · have hkr : k < row.length := by rw [HRL.out]; exact hlt
          have hkk : k < ks.length := by rw [HKL.out]; exact hlt
          obtain ⟨b1, o1, e1, l1, c1⟩ := HKR.out.ints k hkk
          subst e1
          have d0 := (X.cell (p := ⟨b1, o1 + k, none⟩) l1).trans (c1 k hkk)
          obtain ⟨b2, o2, e2, l2, c2⟩ := HRR.out.cels k hkr
          subst e2
          have r0 := (X.cell (p := ⟨b2, o2 + k * 3, none⟩) l2).trans (c2 k hkr).1
          have r1 := (X.cell (p := ⟨b2, o2 + k * 3 + 1, none⟩) l2).trans (c2 k hkr).2.1
          have r2 := (X.cell (p := ⟨b2, o2 + k * 3 + 2, none⟩) l2).trans (c2 k hkr).2.2
          have HBA := hid (fun h => Cnd.rchk_bad (ks := ks) (row := row) hkk hkr h)
          have HBN := hid (fun h => Cnd.rchk_next (ks := ks) (row := row) hkk hkr h)
          clear c1 c2
          generalize ks[k] = kd at *
          generalize row[k] = x at *
          clear hkr hkk
          obtain ⟨k', n', s'⟩ := x
          simp only at r0 r1 r2
          have HCC := hid (fun (A : Option Addr) (cap : Nat) wx (hx : Rd wx A (cls [(k', n', s')])) => check_any kd [(k', n', s')] A 1 cap wx rfl hx (by decide))
          obtain ⟨E, hE⟩ : ∃ E, E = Cel.cchk kd [(k', n', s')] := ⟨_, rfl⟩
          have hE7 := Cel.cchk_le kd [(k', n', s')]
          rw [← hE] at HCC HBA HBN hE7
          clear hE
          have hkI : (k : Int) < (r : Int) := by omega
          go_wp2
          refine wp_gen (fun w' => Ext wr w' ∧ Blk w' wr.heap.size 37 #[.int .i64 k', .int .u64 (n' : Int), .string s']) ⟨(ext_refl _).new _, Blk.new _ _ _⟩ ?_
          rintro wz ⟨B, B1⟩
          have a0 := cell_regrown (B1.cell 0)
          have a1 := cell_regrown (B1.cell 1)
          have a2 := cell_regrown (B1.cell 2)
          have d0r := cell_regrown (ext_cell B d0)
          have HB := hid B
          clear B B1 d0 r0 r1 r2
          refine wp_region_walk [(0, true), (1, true), (2, true), (3, true), (4, true), (5, false), (6, false), (7, true)] (by kernel_rfl) (by kernel_rfl) (fun _ _ _ _ _ h => h) (by kernel_rfl) (by rfl) ?_
          simp only [List.filterMap_cons, List.filterMap_nil, List.getElem?_toArray, List.getElem?_cons_zero, List.getElem?_cons_succ, Option.map_some]
          repeat (refine wpM_val (by rfl) ?_; intro K hK; go_big_quiet_op; go_big_quiet_on)
          have Y0 : Ext wz wz.drew := Ext.draw (ext_refl wz)
          refine wpM_do (by rfl) ?_
          intro K hK
          go_simp
          have Y1 : Ext wz (wz.drew.alloc (.cells #[.int .i64 k', .int .u64 (n' : Int), .string s'] 37)) := Ext.new Y0 _
          refine hK _ _ Y1 ?_
          clear K hK
          refine wpM_do (by rfl) ?_
          intro K hK
          go_simp
          refine Calls.mono (HCC.out _ _ _ (rd_lit rfl rfl)) ?_
          rintro e w3 ⟨rfl, hx⟩
          have Y2 := Y1.then hx
          refine hK _ _ Y2 ?_
          clear K hK hx
          repeat (refine wpM_val (by rfl) ?_; intro K hK; go_big_quiet_op; go_big_quiet_on)
          refine wpM_nil ?_
          have X3 := hid ((X.then HB.out).then Y2)
          clear Y0 Y1 Y2 a0 a1 a2 d0r
          by_cases hE0 : E = 0
          · have HI2 := hid (show Z = if Cnd.rchk (ks.drop (k + 1)) (row.drop (k + 1)) ≠ 0 then (0, Cnd.rchk (ks.drop (k + 1)) (row.drop (k + 1))) else (V, 0) by rw [HI.out, HBN.out hE0])
            subst hE0
            clear HBA HBN hE7 HI
            go_wp2
            go_roundw
            case rel => exact ⟨k + 1, by omega, by go_num, HI2, X3.out⟩
            case measure => simp [intOf]; omega
          · have HE := hid (show Z = (0, E) by rw [HI.out, HBA.out hE0, if_pos hE0])
            have e1 : ((E : Int) != 0) = true := by simp; omega
            clear HBA HBN hE7 HI hE0
            go_wp2
            go_returns
            exact ⟨by rw [HE.out]; rfl, X3.out⟩
        · obtain rfl : k = r := by omega
          have HE := hid (show Z = (V, 0) by
            rw [HI.out, show row.drop k = [] from List.drop_of_length_le (by rw [HRL.out]; exact Nat.le_refl _), Cnd.rchk_end]; rfl)
          clear HI hlt
          go_wp2_with (go_at_call 40; go_loud (refine (HV.out _ X).mono ?_; rintro e w2 ⟨rfl, x2⟩; have X2 := hid x2; clear x2))
          go_returns
          exact ⟨by rw [HE.out]; rfl, X.then X2.out⟩
    · have HE := hid (Cnd.ask_len h0 (show row.length ≠ ks.length by omega))
      have h1I : ((r : Int) != (m : Int)) = true := by simp; omega
      clear hn hp hnl hm hk hml hrl hrr hrll hc7 h0  hrc h1
      go_enter Try.func14, Try.ntmps14
      go_wp2_with (first | (go_at_call 17; go_loud (refine HCK.out.mono ?_; rintro e w1 ⟨rfl, x1⟩; have X1 := hid x1; clear x1)))
      go_returns
      exact ⟨by rw [HE.out]; rfl, X1.out⟩
  · have HE := hid (Cnd.ask_bad (row := row) h0)
    obtain ⟨E, hE⟩ : ∃ E, E = Cnd.chk ks p := ⟨_, rfl⟩
    rw [← hE] at HCK HE h0 hc7
    have e1 : ((E : Int) != 0) = true := by simp; omega
    clear hn hp hnl hm hk hml hrl hrr hrll hc7 h0  hE hrc
    go_enter Try.func14, Try.ntmps14
    go_wp2_with (first | (go_at_call 17; go_loud (refine HCK.out.mono ?_; rintro e w1 ⟨rfl, x1⟩; have X1 := hid x1; clear x1)))
    go_returns
    exact ⟨by rw [HE.out]; rfl, X1.out⟩
set_option maxHeartbeats 3200000 in
set_option maxRecDepth 100000 in
theorem askOf_any (ks : List Int) (p : List Cnd) (row : List Cel) (P K R : Option Addr) (n pcap m kcap r rcap : Nat) (w : World) (hn : p.length = n) (hp : Rd w P (cns p)) (hnl : n ≤ 140737488355328) (hnc : n ≤ pcap) (hm : ks.length = m) (hk : Rd w K (i64s ks)) (hml : m ≤ 140737488355328)
    (hrl : row.length = r) (hrr : Rd w R (cls row)) (hrll : r ≤ 140737488355328) (hrc : r ≤ rcap) (hrs : ∀ x ∈ row, x.2.2.size ≤ 140737488355328) :
    Calls Try.prog 15 #[.slice P n pcap, .slice K m kcap, .slice R r rcap] w fun e w' => e = .returned (.tuple #[.int .i64 ((Cnd.ask ks p row).1 : Nat), .int .i64 ((Cnd.ask ks p row).2 : Nat)]) ∧ Ext w w' := by
  have HCK := hid (condCheck_any ks p P K n pcap m kcap w hn hp hnl hm hk hml)
  have hc7 := Cnd.chk_le ks p
  have hmI : (m : Int) ≤ 140737488355328 := by omega
  have hrI : (r : Int) ≤ 140737488355328 := by omega
  by_cases h0 : Cnd.chk ks p = 0
  · rw [h0] at HCK
    by_cases h1 : r = m
    · subst h1
      have HKL := hid hm
      have HRL := hid hrl
      have HKR := hid hk
      have HRR := hid hrr
      have HV := hid (fun wx (hx : Ext w wx) => condOf_any ks p row P R n pcap r rcap wx h0 hn hnc (hp.keep hx) hrl hm hml (hrr.keep hx) hrs)
      obtain ⟨V, hV⟩ : ∃ V, V = Cnd.val (Cnd.askf row) Cnd.jn p := ⟨_, rfl⟩
      rw [← hV] at HV
      have HRES := hid (show Cnd.ask ks p row = if Cnd.rchk (ks.drop 0) (row.drop 0) ≠ 0 then (0, Cnd.rchk (ks.drop 0) (row.drop 0)) else (V, 0) by
        by_cases h3 : Cnd.rchk ks row = 0
        · rw [Cnd.ask_ok h0 (by omega) h3, List.drop_zero, List.drop_zero, if_neg (by omega), hV]
        · rw [Cnd.ask_row h0 (by omega) h3, List.drop_zero, List.drop_zero, if_pos h3])
      obtain ⟨Z, hZ⟩ : ∃ Z, Z = Cnd.ask ks p row := ⟨_, rfl⟩
      rw [← hZ] at HRES ⊢
      have HRC := hid hrc
      clear hn hp hnl hm hk hml hrl hrr hrll hV hZ hc7 h0 hrs hnc hrc
      go_enter Try.func15, Try.ntmps15
      go_wp2_with (first | (go_at_call 18; go_loud (refine HCK.out.mono ?_; rintro e w1 ⟨rfl, x1⟩; have X1 := hid x1; clear x1)))
      go_loopw [8, 9] (fun _ c wr => ∃ k : Nat, k ≤ r ∧ c = .int .i64 k ∧ Hid (Z = if Cnd.rchk (ks.drop k) (row.drop k) ≠ 0 then (0, Cnd.rchk (ks.drop k) (row.drop k)) else (V, 0)) ∧ Ext w wr) (fun _ c _ => r - (intOf c).toNat)
      case atStart => exact ⟨0, Nat.zero_le _, rfl, HRES, X1.out⟩
      case round =>
        obtain ⟨k, hk, rfl, HI, X⟩ := hrel
        by_cases hlt : k < r
        · have hkr : k < row.length := by rw [HRL.out]; exact hlt
          have hkk : k < ks.length := by rw [HKL.out]; exact hlt
          obtain ⟨b1, o1, e1, l1, c1⟩ := HKR.out.ints k hkk
          subst e1
          have d0 := (X.cell (p := ⟨b1, o1 + k, none⟩) l1).trans (c1 k hkk)
          obtain ⟨B2, hB2⟩ : ∃ B2, B2 = slF R k rcap 3 := ⟨_, rfl⟩
          obtain ⟨c2, hc2⟩ : ∃ c2, c2 = rcap - k := ⟨_, rfl⟩
          have hrx : Rd w B2 (cls [row[k]]) := by
            have h1 := (Rd.from (f := cel3) (m := 3) (fun _ => rfl) HRR.out k rcap (by rw [HRL.out]; exact HRC.out)).take 1
            rw [List.drop_eq_getElem_cons hkr] at h1
            rw [hB2]
            exact h1
          have HRX := hid hrx
          have HC2 := hid hc2
          clear hrx hc2
          obtain ⟨b2, o2, e2, l2, cc2⟩ := HRR.out.cels k hkr
          subst e2
          have r0 := (X.cell (p := ⟨b2, o2 + k * 3, none⟩) l2).trans (cc2 k hkr).1
          have r1 := (X.cell (p := ⟨b2, o2 + k * 3 + 1, none⟩) l2).trans (cc2 k hkr).2.1
          have r2 := (X.cell (p := ⟨b2, o2 + k * 3 + 2, none⟩) l2).trans (cc2 k hkr).2.2
          have HBA := hid (fun h => Cnd.rchk_bad (ks := ks) (row := row) hkk hkr h)
          have HBN := hid (fun h => Cnd.rchk_next (ks := ks) (row := row) hkk hkr h)
          clear c1 cc2
          generalize ks[k] = kd at *
          have HB2 := hid hB2
          clear hB2
          generalize row[k] = x at *
          clear hkr hkk
          obtain ⟨k', n', s'⟩ := x
          simp only at r0 r1 r2
          have HCC := hid (fun (A : Option Addr) (cap : Nat) wx (hx : Rd wx A (cls [(k', n', s')])) => cellsCheck_any kd [(k', n', s')] A 1 cap wx rfl hx (by decide))
          obtain ⟨E, hE⟩ : ∃ E, E = Cel.cchk kd [(k', n', s')] := ⟨_, rfl⟩
          have hE7 := Cel.cchk_le kd [(k', n', s')]
          rw [← hE] at HCC HBA HBN hE7
          clear hE
          have hkI : (k : Int) < (r : Int) := by omega
          have hw1 : IntKind.i64.wrap ((k : Int) + 1) = (k : Int) + 1 := by rw [IntKind.wrap_i64]; omega
          have hS : ∀ w, (Instr.sliceAt 24 (.slice (some ⟨b2, o2, none⟩) r rcap) (some (.int .i64 (k : Int))) (some (.int .i64 ((k : Int) + 1))) none).run Try.prog w = .ok (.slice B2 1 c2) w := fun w => by
            have := sl_mid (P := Try.prog) Try.underlying24 infoCell (some ⟨b2, o2, none⟩) r rcap .i64 .i64 k (k + 1) (by omega) (by have := HRC.out; omega) w
            rw [show k + 1 - k = 1 by omega, ← HB2.out, ← HC2.out] at this
            exact this
          have d0r := cell_regrown d0
          clear d0 r0 r1 r2
          go_wp2
          refine wp_region_walk [(0, true), (1, true), (2, true), (3, true), (4, true), (5, true), (6, true), (7, true), (8, true), (9, false), (10, true)] (by kernel_rfl) (by kernel_rfl) (fun _ _ _ _ _ h => h) (by kernel_rfl) (by rfl) ?_
          simp only [List.filterMap_cons, List.filterMap_nil, List.getElem?_toArray, List.getElem?_cons_zero, List.getElem?_cons_succ, Option.map_some]
          repeat (refine wpM_val (by rfl) ?_; intro K hK; go_big_quiet_op; go_big_quiet_on)
          have Y0 : Ext wr wr.drew := Ext.draw (ext_refl wr)
          refine wpM_do (by rfl) ?_
          intro K hK
          go_simp
          refine Calls.mono (HCC.out _ _ _ (HRX.out.keep (X.then Y0))) ?_
          rintro e w3 ⟨rfl, hx⟩
          have Y2 := Y0.then hx
          refine hK _ _ Y2 ?_
          clear K hK hx
          repeat (refine wpM_val (by rfl) ?_; intro K hK; go_big_quiet_op; go_big_quiet_on)
          refine wpM_nil ?_
          have X3 := hid (X.then Y2)
          clear Y0 Y2 d0r hS
          by_cases hE0 : E = 0
          · have HI2 := hid (show Z = if Cnd.rchk (ks.drop (k + 1)) (row.drop (k + 1)) ≠ 0 then (0, Cnd.rchk (ks.drop (k + 1)) (row.drop (k + 1))) else (V, 0) by rw [HI.out, HBN.out hE0])
            subst hE0
            clear HBA HBN hE7 HI
            go_wp2
            go_roundw
            case rel => exact ⟨k + 1, by omega, by go_num, HI2, X3.out⟩
            case measure => simp [intOf]; omega
          · have HE := hid (show Z = (0, E) by rw [HI.out, HBA.out hE0, if_pos hE0])
            have e1 : ((E : Int) != 0) = true := by simp; omega
            clear HBA HBN hE7 HI hE0
            go_wp2
            go_returns
            exact ⟨by rw [HE.out]; rfl, X3.out⟩
        · obtain rfl : k = r := by omega
          have HE := hid (show Z = (V, 0) by
            rw [HI.out, show row.drop k = [] from List.drop_of_length_le (by rw [HRL.out]; exact Nat.le_refl _), Cnd.rchk_end]; rfl)
          clear HI hlt
          go_wp2_with (go_at_call 42; go_loud (refine (HV.out _ X).mono ?_; rintro e w2 ⟨rfl, x2⟩; have X2 := hid x2; clear x2))
          go_returns
          exact ⟨by rw [HE.out]; rfl, X.then X2.out⟩
    · have HE := hid (Cnd.ask_len h0 (show row.length ≠ ks.length by omega))
      have h1I : ((r : Int) != (m : Int)) = true := by simp; omega
      clear hn hp hnl hm hk hml hrl hrr hrll hc7 h0 hrs hnc hrc h1
      go_enter Try.func15, Try.ntmps15
      go_wp2_with (first | (go_at_call 18; go_loud (refine HCK.out.mono ?_; rintro e w1 ⟨rfl, x1⟩; have X1 := hid x1; clear x1)))
      go_returns
      exact ⟨by rw [HE.out]; rfl, X1.out⟩
  · have HE := hid (Cnd.ask_bad (row := row) h0)
    obtain ⟨E, hE⟩ : ∃ E, E = Cnd.chk ks p := ⟨_, rfl⟩
    rw [← hE] at HCK HE h0 hc7
    have e1 : ((E : Int) != 0) = true := by simp; omega
    clear hn hp hnl hm hk hml hrl hrr hrll hc7 h0 hrs hE hnc hrc
    go_enter Try.func15, Try.ntmps15
    go_wp2_with (first | (go_at_call 18; go_loud (refine HCK.out.mono ?_; rintro e w1 ⟨rfl, x1⟩; have X1 := hid x1; clear x1)))
    go_returns
    exact ⟨by rw [HE.out]; rfl, X1.out⟩
end Go.Proofs.Ytpheegfanljeeaa
end
