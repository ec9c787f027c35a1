/- Conditions: truth values, asked, walk[int], Raw: walks. Lists of small ints in rows of one's own. -/
import Derived.Test.YtolhifnlahllnaaGreatDoorQpa
import Derived.Test.YtolhifnlahllnaaGreatDoorCec
import Derived.Test.YtolhifnlahllnaaGreatDoorGen
import Derived.Test.YtolhifnlahllnaaGreatDoorGhx
section
namespace Hy.Cnd
open Go
/-- joined truth values -/
@[irreducible] def jn (op : Int) (x y : Nat) : Nat := if op = 5 then min x y else if op = 6 then max x y else 2 - x
def b2 (b : Bool) : Nat := if b then 1 else 0
theorem jn_le {op : Int} {x y : Nat} (hx : x ≤ 2) (hy : y ≤ 2) : jn op x y ≤ 2 := by unfold jn; (repeat' split) <;> omega
end Hy.Cnd
namespace Go.Proofs.YtolhifnlahllnaaGreatDoor
open Go.RowKit Hy
theorem truth_any (b : Bool) (w : World) : Calls Tryz.prog 106 #[.bool b] w fun e w' => e = .returned (.int .i64 ((2 * Cnd.b2 b : Nat) : Int)) ∧ w = w' := by
  cases b
  all_goals (go_enter Tryz.func106, Tryz.ntmps106; go_wp2; go_returns; exact ⟨rfl, rfl⟩)
theorem joined_any (op : Int) (x y : Nat) (hx : x ≤ 2) (hy : y ≤ 2) (w : World) : Calls Tryz.prog 94 #[.int .i64 op, .int .i64 x, .int .i64 y] w fun e w' => e = .returned (.int .i64 (Cnd.jn op x y : Nat)) ∧ w = w' := by
  by_cases h5 : op = 5
  · subst h5
    rcases (by omega : x = 0 ∨ x = 1 ∨ x = 2) with rfl | rfl | rfl <;> rcases (by omega : y = 0 ∨ y = 1 ∨ y = 2) with rfl | rfl | rfl
    all_goals (go_enter Tryz.func94, Tryz.ntmps94; go_wp2; go_returns; exact ⟨by simp [Cnd.jn] <;> rfl, rfl⟩)
  by_cases h6 : op = 6
  · subst h6
    rcases (by omega : x = 0 ∨ x = 1 ∨ x = 2) with rfl | rfl | rfl <;> rcases (by omega : y = 0 ∨ y = 1 ∨ y = 2) with rfl | rfl | rfl
    all_goals (go_enter Tryz.func94, Tryz.ntmps94; go_wp2; go_returns; exact ⟨by simp [Cnd.jn] <;> rfl, rfl⟩)
  have e5 : (op == 5) = false := beq_eq_false_iff_ne.2 h5
  have e6 : (op == 6) = false := beq_eq_false_iff_ne.2 h6
  have hj : Cnd.jn op x y = 2 - x := by unfold Cnd.jn; rw [if_neg h5, if_neg h6]
  rw [hj]
  clear hj h5 h6 hy
  rcases (by omega : x = 0 ∨ x = 1 ∨ x = 2) with rfl | rfl | rfl
  all_goals (go_enter Tryz.func94, Tryz.ntmps94; go_wp2; go_returns; exact ⟨rfl, rfl⟩)
end Go.Proofs.YtolhifnlahllnaaGreatDoor
end
section
namespace Hy.Cnd
/-- what a leaf is of a cell: 0 False, 1 Unknown, 2 True -/
@[irreducible] def askd (c : Cnd) (x : Cel) : Nat :=
  if c.1 = 4 then 2 * b2 (decide (x.1 = 0)) else if x.1 = 0 then 1 else
  if c.1 = 1 then 2 * b2 (decide (x = c.2.2)) else if c.1 = 2 then 2 * b2 (Cel.less x c.2.2) else 2 * b2 (Cel.less c.2.2 x)
theorem b2_le (b : Bool) : b2 b ≤ 1 := by cases b <;> decide
theorem askd_le (c : Cnd) (x : Cel) : askd c x ≤ 2 := by
  unfold askd
  have h1 := b2_le (decide (x.1 = 0)); have h2 := b2_le (decide (x = c.2.2)); have h3 := b2_le (Cel.less x c.2.2); have h4 := b2_le (Cel.less c.2.2 x)
  (repeat' split) <;> omega
end Hy.Cnd
namespace Go.Proofs.YtolhifnlahllnaaGreatDoor
open Go.RowKit Hy
set_option maxHeartbeats 1600000 in
theorem asked_any (c : Cnd) (x : Cel) (w : World) : Calls Tryz.prog 93 #[cndV c, celV x] w fun e w' => e = .returned (.int .i64 (Cnd.askd c x : Nat)) ∧ Ext w w' := by
  obtain ⟨op, col, k, n, s⟩ := c
  obtain ⟨k', n', s'⟩ := x
  have XN := hid (Ext.new (Ext.new (ext_refl w) (.cells #[.int .i64 op, .int .i64 col, .int .i64 k, .int .u64 (n : Int), .string s] 58)) (.cells #[.int .i64 k', .int .u64 (n' : Int), .string s'] 42))
  have HT := hid (fun b wx => truth_any b wx)
  obtain ⟨R, hR⟩ : ∃ R, R = Cnd.askd (op, col, k, n, s) (k', n', s') := ⟨_, rfl⟩
  rw [← hR]
  unfold Cnd.askd at hR
  simp only at hR
  by_cases h4 : op = 4
  · rw [if_pos h4] at hR
    subst h4
    by_cases h0 : k' = 0
    · rw [decide_eq_true h0] at hR
      subst h0
      have HE := hid hR
      clear hR
      go_enter Tryz.func93, Tryz.ntmps93
      go_wp2_with (go_at_call 106; refine (HT.out _ _).mono ?_; rintro e w1 ⟨rfl, rfl⟩)
      go_returns
      exact ⟨by rw [HE.out]; rfl, XN.out⟩
    · rw [decide_eq_false h0] at hR
      have HE := hid hR
      have e0 : (k' == 0) = false := beq_eq_false_iff_ne.2 h0
      clear hR h0
      go_enter Tryz.func93, Tryz.ntmps93
      go_wp2_with (go_at_call 106; refine (HT.out _ _).mono ?_; rintro e w1 ⟨rfl, rfl⟩)
      go_returns
      exact ⟨by rw [HE.out]; rfl, XN.out⟩
  rw [if_neg h4] at hR
  have e4 : (op == 4) = false := beq_eq_false_iff_ne.2 h4
  clear h4
  by_cases h0 : k' = 0
  · rw [if_pos h0] at hR
    subst h0
    have HE := hid hR
    clear hR
    go_enter Tryz.func93, Tryz.ntmps93
    go_wp2_with (go_at_call 106; refine (HT.out _ _).mono ?_; rintro e w1 ⟨rfl, rfl⟩)
    go_returns
    exact ⟨by rw [HE.out]; rfl, XN.out⟩
  rw [if_neg h0] at hR
  have e0 : (k' == 0) = false := beq_eq_false_iff_ne.2 h0
  clear h0
  by_cases h1 : op = 1
  · rw [if_pos h1] at hR
    subst h1
    have hq := fun w => cel_eql k' k n' n s' s w
    generalize decide (((k', n', s') : Cel) = (k, n, s)) = q at *
    have HE := hid hR
    clear hR
    go_enter Tryz.func93, Tryz.ntmps93
    go_wp2_with (go_at_call 106; refine (HT.out _ _).mono ?_; rintro e w1 ⟨rfl, rfl⟩)
    go_returns
    exact ⟨by rw [HE.out]; rfl, XN.out⟩
  rw [if_neg h1] at hR
  have e1 : (op == 1) = false := beq_eq_false_iff_ne.2 h1
  clear h1
  have HL1 := hid (fun wx => less_any (k', n', s') (k, n, s) wx)
  have HL2 := hid (fun wx => less_any (k, n, s) (k', n', s') wx)
  generalize Cel.less (k', n', s') (k, n, s) = q1 at *
  generalize Cel.less (k, n, s) (k', n', s') = q2 at *
  by_cases h2 : op = 2
  · rw [if_pos h2] at hR
    subst h2
    have HE := hid hR
    clear hR HL2
    go_enter Tryz.func93, Tryz.ntmps93
    go_wp2_with (first | (go_at_call 106; refine (HT.out _ _).mono ?_; rintro e w1 ⟨rfl, rfl⟩) | (go_at_call 107; go_loud (refine (HL1.out _).mono ?_; rintro e w2 ⟨rfl, x2⟩; have X2 := hid x2; clear x2)))
    go_returns
    exact ⟨by rw [HE.out]; rfl, XN.out.then X2.out⟩
  · rw [if_neg h2] at hR
    have e2 : (op == 2) = false := beq_eq_false_iff_ne.2 h2
    have HE := hid hR
    clear hR HL1 h2
    go_enter Tryz.func93, Tryz.ntmps93
    go_wp2_with (first | (go_at_call 106; refine (HT.out _ _).mono ?_; rintro e w1 ⟨rfl, rfl⟩) | (go_at_call 107; go_loud (refine (HL2.out _).mono ?_; rintro e w2 ⟨rfl, x2⟩; have X2 := hid x2; clear x2)))
    go_returns
    exact ⟨by rw [HE.out]; rfl, XN.out.then X2.out⟩
end Go.Proofs.YtolhifnlahllnaaGreatDoor
end
section
namespace Hy
open Go Go.RowKit
/-- a list of natural numbers as cells of ints -/
def n64s (l : List Nat) : List Value := l.map fun (x : Nat) => .int .i64 (x : Int)
theorem n64s_len (l : List Nat) : (n64s l).length = l.length := List.length_map _
theorem n64s_one (l : List Nat) : ∀ u ∈ n64s l, u.oneCell' = true := fun u hu => by
  obtain ⟨c, _, rfl⟩ := List.mem_map.1 hu; rfl
theorem n64s_app (l m : List Nat) : n64s (l ++ m) = n64s l ++ n64s m := List.map_append
theorem n64s_take (l : List Nat) (k : Nat) : n64s (l.take k) = (n64s l).take k := List.map_take
theorem n64s_set (l : List Nat) (k x : Nat) : n64s (l.set k x) = (n64s l).set k (.int .i64 (x : Int)) := List.map_set
theorem n64s_get (l : List Nat) (k : Nat) (h : k < l.length) : (n64s l)[k]? = some (.int .i64 ((l.getD k 0 : Nat) : Int)) := by
  unfold n64s; rw [List.getElem?_map, List.getElem?_eq_getElem h, List.getD_eq_getElem?_getD, List.getElem?_eq_getElem h]; rfl
theorem own_take1 {w : World} {base : Nat} {e : TypeId} {n k c : Nat} {A : Option Addr} {xs : List Value} (h : w.ownsRow base e 1 (.slice A n c) n xs) (hk : k ≤ n) (hn : 0 < n) : w.ownsRow base e 1 (.slice A k c) k (xs.take k) := by
  refine ⟨by rw [List.length_take, h.1]; omega, ?_⟩
  rcases h.2 with ⟨h1, _⟩ | ⟨b, cap, cur, hv, hb, hg, h1, h2, h3, h4⟩
  · injection h1 with _ hn0; omega
  · injection hv with ha _ hcap
    subst ha hcap
    refine .inr ⟨b, c, cur, rfl, hb, hg, by omega, h2, h3, ?_⟩
    rw [← h4, List.take_take]; congr 1; omega
theorem own_parts {w : World} {base : Nat} {e : TypeId} {n : Nat} {v : Value} {xs : List Value} (h : w.ownsRow base e 1 v n xs) (hn : 0 < n) :
    ∃ g c cur, v = .slice (some ⟨g, 0, none⟩) n c ∧ base ≤ g ∧ n ≤ c ∧ c ≤ maxLen ∧ Blk w g e cur ∧ ∀ i u, i < n → xs[i]? = some u → w.cell? ⟨g, i, none⟩ = some u := by
  have h0 := h
  rcases h.2 with ⟨_, h1⟩ | ⟨b, cap, cur, hv, hb, hg, h1, h2, h3, h4⟩
  · omega
  · subst hv
    refine ⟨b, cap, cur, rfl, hb, h1, h2, hg, fun i u hi hu => ?_⟩
    have := h0.cells (g := b) rfl i u hu
    rw [add_none] at this; simpa using this
theorem set_last (S : List Nat) (n x : Nat) (h : S.length = n + 1) : S.set n x = S.take n ++ [x] := by
  rw [List.set_eq_take_append_cons_drop, if_pos (by omega), List.drop_of_length_le (by omega)]
end Hy
namespace Go.Proofs.YtolhifnlahllnaaGreatDoor
open Go.RowKit Hy
theorem rowI : RowT Tryz.prog 60 3 1 8 := RowT.mk' (z := .int .i64 0) Tryz.underlying60 (by kernel_rfl) rfl (by decide)
set_option maxHeartbeats 6400000 in
set_option maxRecDepth 100000 in
theorem walkI_any (ks : List Int) (p : List Cnd) (f : Cnd → Nat) (P : Option Addr) (n pcap : Nat) (g : Nat) (w : World) (hr : Cnd.chk ks p = 0) (hn : p.length = n) (hp : Rd w P (cns p)) (hf : ∀ c ∈ p, f c ≤ 2)
    (HF : ∀ c ∈ p, Cnd.sz c.1 = 0 → ∀ wx, Ext w wx → Calls Tryz.prog 92 #[cndV c, .pointer (some ⟨g, 0, none⟩)] wx fun e w' => e = .returned (.int .i64 (f c : Nat)) ∧ Ext wx w') :
    Calls Tryz.prog 91 #[.slice P n pcap, .func (.func 92) #[] #[.pointer (some ⟨g, 0, none⟩)], .func (.func 94) #[] #[]] w fun e w' => e = .returned (.int .i64 (Cnd.val f Cnd.jn p : Nat)) ∧ Ext w w' := by
  have HN := hid hn
  have HP := hid hp
  have HLF := hid HF
  have h16 : n ≤ 16 := by
    obtain ⟨_, _, _, h⟩ := Cnd.right_tree hr
    omega
  have HSZ := hid (fun k hk => Cnd.chk_sz hr f Cnd.jn k hk)
  have HST := hid (fun k hk => Cnd.take_stp f Cnd.jn p [] k hk)
  have HLE := hid (fun k => Cnd.stk_le f Cnd.jn p k)
  have HBD := hid (fun k => Cnd.stk_bd (B := 2) (j := Cnd.jn) (p := p) hf (fun op x y hx hy => Cnd.jn_le hx hy) k)
  have HALL := hid (Cnd.stk_all hr f Cnd.jn)
  have hI : (n : Int) ≤ 16 := by omega
  clear hn hp HF hr hf
  go_enter Tryz.func91, Tryz.ntmps91
  go_wp2
  go_loopw [7, 9, 13] (fun x _ c wr => ∃ k m : Nat, k ≤ n ∧ c = .int .i64 k ∧ Hid (m = ((p.take k).foldl (Cnd.stp f Cnd.jn) []).length) ∧ Hid (wr.ownsRow w.heap.size 3 1 x m (n64s ((p.take k).foldl (Cnd.stp f Cnd.jn) []))) ∧ Ext w wr) (fun _ _ c _ => n - (intOf c).toNat)
  case atStart => exact ⟨0, 0, Nat.zero_le _, rfl, rfl, hid (World.ownsRow_nil _ _ _ _), ext_refl _⟩
  case round =>
    obtain ⟨k, m, hk, rfl, HM, HO, X⟩ := hrel
    have hmk : m ≤ k := by rw [HM.out]; exact HLE.out k
    by_cases hlt : k < n
    · have hka : k < p.length := by rw [HN.out]; exact hlt
      obtain ⟨b1, o1, e1, l1, c1⟩ := HP.out.cnds k hka
      subst e1
      have d0 := (X.cell (p := ⟨b1, o1 + k * 5, none⟩) l1).trans (c1 k hka).1
      have d1 := (X.cell (p := ⟨b1, o1 + k * 5 + 1, none⟩) l1).trans (c1 k hka).2.1
      have d2 := (X.cell (p := ⟨b1, o1 + k * 5 + 2, none⟩) l1).trans (c1 k hka).2.2.1
      have d3 := (X.cell (p := ⟨b1, o1 + k * 5 + 3, none⟩) l1).trans (c1 k hka).2.2.2.1
      have d4 := (X.cell (p := ⟨b1, o1 + k * 5 + 4, none⟩) l1).trans (c1 k hka).2.2.2.2
      have HCF := hid (HLF.out p[k] (List.getElem_mem hka))
      have HSTK := hid (HST.out k hka)
      have hsm := HSZ.out k hka
      rw [← HM.out] at hsm
      have HBK := hid (HBD.out k)
      clear c1
      generalize p[k] = c at *
      clear hka
      generalize (p.take k).foldl (Cnd.stp f Cnd.jn) [] = S at *
      obtain ⟨op, col, kk, nn, ss⟩ := c
      simp only at d0 d1 d2 d3 d4 hsm
      have HPT := hid (parts_any op)
      have hmI : (m : Int) ≤ (k : Int) := by omega
      have hkI : (k : Int) < (n : Int) := by omega
      have h2 := Cnd.sz_le op
      have XR := hid (X.new (.cells #[.int .i64 op, .int .i64 col, .int .i64 kk, .int .u64 (nn : Int), .string ss] 58))
      obtain ⟨Ab, cb, hAb, _⟩ := Rd.owned HO.out
      subst hAb
      rcases (by omega : Cnd.sz op = 0 ∨ Cnd.sz op = 1 ∨ Cnd.sz op = 2) with hs | hs | hs
      · have HNX := hid (show (p.take (k + 1)).foldl (Cnd.stp f Cnd.jn) [] = S ++ [f (op, col, kk, nn, ss)] by rw [HSTK.out]; unfold Cnd.stp; rw [if_pos (show Cnd.sz (op, col, kk, nn, ss).1 = 0 from hs)])
        replace HCF := hid (HCF.out hs)
        rw [hs] at HPT
        obtain ⟨z, hz⟩ : ∃ z, z = f (op, col, kk, nn, ss) := ⟨_, rfl⟩
        rw [← hz] at HCF HNX
        clear hs h2 hsm HSTK hz
        go_wp2_with (first | (go_at_call 77; refine (HPT.out _).mono ?_; rintro e w1 ⟨rfl, rfl⟩) | (go_at_call 92; go_loud (refine (HCF.out _ XR.out).mono ?_; rintro e w2 ⟨rfl, x2⟩; have X2 := hid (((ext_refl wr).new _).then x2); clear x2)) | (at_builtin; refine wpList_app rfl (.tmp 44) (.tmp 48) rowI rfl _ m _ rfl (own_ext HO.out (X2.out.new _)) _ 1 (n64s [z]) rfl (Src.rd Tryz.underlying60 _ 1 1 _ rfl (rd_lit rfl rfl) (n64s_one _) (fun h => by cases h)) (by unfold maxLen; omega) (by omega) (by have := X.size; have := X2.out.size; simp; omega) ?_; intro v3 w3 hown3 hg3 ha3 hb3; have O3 := hid hown3; have X3 := hid ((X.then (X2.out.new _)).trans hb3); clear hown3 hg3 ha3 hb3))
        go_roundw
        case rel => exact ⟨k + 1, m + 1, by omega, by go_num, hid (by rw [HNX.out, HM.out]; simp), hid (by rw [HNX.out, n64s_app]; exact O3.out), X3.out⟩
        case measure => simp [intOf]; omega
      all_goals (
        obtain ⟨g3, c3, cur3, hA3, hg3, hc3, hx3, hB3, hcell⟩ := own_parts HO.out (by omega)
        injection hA3 with hA3 _ hc4
        subst hA3
        subst hc4
        have HO1 := hid (own_ext HO.out ((ext_refl wr).new (.cells #[.int .i64 op, .int .i64 col, .int .i64 kk, .int .u64 (nn : Int), .string ss] 58)))
        have HSL := hid HM.out.symm)
      · have HNX := hid (show (p.take (k + 1)).foldl (Cnd.stp f Cnd.jn) [] = S.set (m - 1) (Cnd.jn op (S.getD (m - 1) 0) (S.getD (m - 1) 0)) by
          rw [HSTK.out, set_last S (m - 1) _ (by rw [HSL.out]; omega)]; unfold Cnd.stp; rw [if_neg (by simp only; omega), if_pos (show Cnd.sz (op, col, kk, nn, ss).1 = 1 from hs), HSL.out])
        rw [hs] at HPT
        obtain ⟨r, hr⟩ : ∃ r, m = r + 1 := ⟨m - 1, by omega⟩
        have hrm : m - 1 = r := by omega
        rw [hrm] at HNX
        have hr1 : (m : Int) - 1 = (r : Int) := by omega
        have hw1 : IntKind.i64.wrap ((m : Int) - 1) = (r : Int) := by rw [IntKind.wrap_i64]; omega
        have hw2 : IntKind.i64.wrap (r : Int) = (r : Int) := by rw [IntKind.wrap_i64]; omega
        have hrI : (r : Int) < (m : Int) := by omega
        have e1 := hcell r _ (by omega) (n64s_get S r (by rw [HSL.out]; omega))
        have hx := Cnd.getD_le HBK.out r
        generalize S.getD r 0 = x at *
        have HJ := hid (fun wx => joined_any op x x (by omega) (by omega) wx)
        generalize Cnd.jn op x x = z at *
        have HRM := hid (show r < m by omega)
        have HMM := hid hr
        clear hs h2 hsm HSTK hcell hr hrm hx
        go_wp2_with (first | (go_at_call 77; refine (HPT.out _).mono ?_; rintro e w1 ⟨rfl, rfl⟩))
        refine wp_gen (fun w' => Ext wr w' ∧ w'.ownsRow w.heap.size 3 1 (.slice (some ⟨g3, 0, none⟩) m cb) m (n64s S) ∧ Blk w' wr.heap.size 58 #[.int .i64 op, .int .i64 col, .int .i64 kk, .int .u64 (nn : Int), .string ss]) ⟨(ext_refl wr).new _, HO1.out, Blk.new _ _ _⟩ ?_
        rintro wz ⟨BZ, OZ, B1⟩
        have a0 := cell_regrown (B1.cell 0)
        have e1r := cell_regrown (ext_cell BZ e1)
        have HBZ := hid BZ
        have HOZ := hid OZ
        clear BZ OZ B1
        refine wp_region_late [18] [] [(0, true), (1, true), (2, true), (3, true), (4, true), (5, true), (6, true), (7, true), (8, true), (9, true), (10, true), (11, true), (12, true), (13, true), (14, true), (15, true), (16, false), (17, true), (18, false)] (by kernel_rfl) (by kernel_rfl) (fun _ _ _ _ _ h => h) (by kernel_rfl) (by rfl) ?_
        simp only [List.filterMap_cons, List.filterMap_nil, List.getElem?_toArray, List.getElem?_cons_zero, List.getElem?_cons_succ, Option.map_some, List.contains_cons, List.contains_nil, Nat.reduceBEq, Bool.or_false]
        repeat ((first | refine wpL_val (by rfl) ?_ | refine wpL_pure (by rfl) ?_); intro K hK; go_big_quiet_op; go_big_quiet_on)
        refine wpL_do (by rfl) ?_
        intro K hK
        go_simp
        refine Calls.mono (HJ.out _) ?_
        rintro e _ ⟨rfl, rfl⟩
        have Y0 : Ext wz wz.drew := Ext.draw (ext_refl wz)
        refine hK _ _ Y0 ?_
        clear K hK
        repeat ((first | refine wpL_val (by rfl) ?_ | refine wpL_pure (by rfl) ?_); intro K hK; go_big_quiet_op; go_big_quiet_on)
        have HOD := hid (own_ext HOZ.out Y0)
        have q1 := ext_cell (HBZ.out.then Y0) e1
        have q2 := HOD.out.frozenAt r
        refine wpL_late (by rfl) ?_
        intro K hK
        go_simp
        refine hK _ _ ?_
        clear K hK
        refine wpL_nil ?_
        go_wp2
        go_roundw
        case rel => exact ⟨k + 1, m, by omega, by go_num, hid (by rw [HNX.out, List.length_set]; exact HSL.out.symm), hid (by rw [HNX.out, n64s_set]; exact own_set HOD.out rfl r _), ((X.then HBZ.out).then Y0).put hg3 _⟩
        case measure => simp [intOf]; omega
      · have HNX := hid (show (p.take (k + 1)).foldl (Cnd.stp f Cnd.jn) [] = S.take (m - 2) ++ [Cnd.jn op (S.getD (m - 2) 0) (S.getD (m - 1) 0)] by
          rw [HSTK.out]; unfold Cnd.stp; rw [if_neg (by simp only; omega), if_neg (by simp only; omega), HSL.out])
        rw [hs] at HPT
        obtain ⟨q, hq⟩ : ∃ q, m = q + 2 := ⟨m - 2, by omega⟩
        obtain ⟨r, hr⟩ : ∃ r, r = q + 1 := ⟨_, rfl⟩
        have hqm : m - 2 = q := by omega
        have hrm : m - 1 = r := by omega
        rw [hqm, hrm] at HNX
        have hq1 : (m : Int) - 2 = (q : Int) := by omega
        have hr1 : (m : Int) - 1 = (r : Int) := by omega
        have hw1 : IntKind.i64.wrap ((m : Int) - 1) = (r : Int) := by rw [IntKind.wrap_i64]; omega
        have hw2 : IntKind.i64.wrap (r : Int) = (r : Int) := by rw [IntKind.wrap_i64]; omega
        have hw3 : IntKind.i64.wrap ((m : Int) - 2) = (q : Int) := by rw [IntKind.wrap_i64]; omega
        have hw4 : IntKind.i64.wrap (q : Int) = (q : Int) := by rw [IntKind.wrap_i64]; omega
        have hrI : (r : Int) < (m : Int) := by omega
        have hqI : (q : Int) < (m : Int) := by omega
        have hqc : (q : Int) ≤ (cb : Int) := by omega
        have e1 := hcell r _ (by omega) (n64s_get S r (by rw [HSL.out]; omega))
        have e2 := hcell q _ (by omega) (n64s_get S q (by rw [HSL.out]; omega))
        have hx := Cnd.getD_le HBK.out r
        have hy := Cnd.getD_le HBK.out q
        generalize S.getD r 0 = x at *
        generalize S.getD q 0 = y at *
        have HJ := hid (fun wx => joined_any op y x (by omega) (by omega) wx)
        generalize Cnd.jn op y x = z at *
        have HQM := hid (show q ≤ m ∧ 0 < m ∧ m ≤ 16 by omega)
        have HQL := hid (show (S.take q).length = q by rw [List.length_take, HSL.out]; omega)
        have HHS := hid X.size
        clear hs h2 hsm HSTK hcell hr hrm hx hy hq hqm
        go_wp2_with (first | (go_at_call 77; refine (HPT.out _).mono ?_; rintro e w1 ⟨rfl, rfl⟩))
        refine wp_gen (fun w' => Ext wr w' ∧ w'.ownsRow w.heap.size 3 1 (.slice (some ⟨g3, 0, none⟩) m cb) m (n64s S) ∧ Blk w' wr.heap.size 58 #[.int .i64 op, .int .i64 col, .int .i64 kk, .int .u64 (nn : Int), .string ss]) ⟨(ext_refl wr).new _, HO1.out, Blk.new _ _ _⟩ ?_
        rintro wz ⟨BZ, OZ, B1⟩
        have a0 := cell_regrown (B1.cell 0)
        have e1r := cell_regrown (ext_cell BZ e1)
        have e2r := cell_regrown (ext_cell BZ e2)
        have HBZ := hid BZ
        have HOZ := hid (own_take1 OZ HQM.out.1 HQM.out.2.1)
        clear BZ OZ B1
        refine wp_region_late [19] [20] [(0, true), (1, true), (2, true), (3, true), (4, true), (5, true), (6, true), (7, true), (8, true), (9, true), (10, true), (11, true), (12, true), (13, true), (14, true), (15, true), (16, true), (17, false), (18, false), (19, false), (20, true)] (by kernel_rfl) (by kernel_rfl) (fun _ _ _ _ _ h => h) (by kernel_rfl) (by rfl) ?_
        simp only [List.filterMap_cons, List.filterMap_nil, List.getElem?_toArray, List.getElem?_cons_zero, List.getElem?_cons_succ, Option.map_some, List.contains_cons, List.contains_nil, Nat.reduceBEq, Bool.or_false]
        repeat ((first | refine wpL_val (by rfl) ?_ | refine wpL_pure (by rfl) ?_); intro K hK; go_big_quiet_op; go_big_quiet_on)
        refine wpL_do (by rfl) ?_
        intro K hK
        go_simp
        refine Calls.mono (HJ.out _) ?_
        rintro e _ ⟨rfl, rfl⟩
        have Y0 : Ext wz wz.drew := Ext.draw (ext_refl wz)
        refine hK _ _ Y0 ?_
        clear K hK
        refine wpL_do (by rfl) ?_
        intro K hK
        go_simp
        have Y1 : Ext wz (wz.drew.alloc (.cells #[.int .i64 (z : Int)] 3)) := Ext.new Y0 _
        refine hK _ _ Y1 ?_
        clear K hK
        refine wpL_late (by rfl) ?_
        intro K hK
        refine wp_app (.tmp 25) (.tmp 40) rowI rfl _ q (n64s (S.take q)) rfl (by rw [n64s_take]; exact own_ext HOZ.out Y1) _ 1 (n64s [z]) rfl (Src.rd Tryz.underlying60 _ 1 1 _ rfl (rd_lit rfl rfl) (n64s_one _) (fun h => by cases h)) (by have := HQM.out; unfold maxLen; omega) (by have := HQM.out; omega) (by have := HHS.out; have := HBZ.out.size; simp; omega) ?_
        intro v3 w3 hown3 hgr3 hat3 hbel3
        refine hK _ _ ?_
        clear K hK
        obtain ⟨C3, k3, rfl, _⟩ := Rd.owned hown3
        have HO3 := hid hown3
        have HX3 : Hid (Ext w w3) := hid (((X.then HBZ.out).then Y1).trans hbel3)
        clear hown3 hgr3 hat3 hbel3 d0 d1 d2 d3 d4 e1 e2 e1r e2r a0
        simp only [Act.put, List.setIfInBounds_toArray, List.set_cons_succ, List.set_cons_zero]
        repeat (refine wpL_pure (by rfl) ?_; intro K hK; go_big_quiet_op; go_big_quiet_on)
        refine wpL_nil ?_
        go_wp2
        go_roundw
        case rel => exact ⟨k + 1, q + 1, by omega, by go_num, hid (by rw [HNX.out, List.length_append, HQL.out]; rfl), hid (by rw [HNX.out, n64s_app]; exact HO3.out), HX3.out⟩
        case measure => simp [intOf]; omega
    · obtain rfl : k = n := by omega
      have hti : p.take k = p := List.take_of_length_le (by rw [HN.out]; exact Nat.le_refl _)
      rw [hti, HALL.out] at HM HO
      have hm1 : m = 1 := HM.out
      subst hm1
      obtain ⟨g3, c3, cur3, rfl, hg3, hc3, hx3, hB3, hcell⟩ := own_parts HO.out (by omega)
      have e1 := hcell 0 _ (by omega) (show _ = some (.int .i64 ((Cnd.val f Cnd.jn p : Nat) : Int)) from rfl)
      obtain ⟨V, hV⟩ : ∃ V, V = Cnd.val f Cnd.jn p := ⟨_, rfl⟩
      rw [← hV] at e1
      have HV := hid hV
      clear hcell hti hV
      go_wp2
      go_returns
      exact ⟨by rw [← HV.out]; rfl, X⟩
end Go.Proofs.YtolhifnlahllnaaGreatDoor
end
section
namespace Hy.Cnd
theorem askd_four {col k : Int} {n : Nat} {s : ByteArray} {x : Cel} : askd (4, col, k, n, s) x = 2 * b2 (decide (x.1 = 0)) := by unfold askd; rfl
theorem askd_null {c : Cnd} {x : Cel} (h4 : c.1 ≠ 4) (h : x.1 = 0) : askd c x = 1 := by unfold askd; rw [if_neg h4, if_pos h]
theorem askd_one {col k : Int} {n : Nat} {s : ByteArray} {x : Cel} (h : x.1 ≠ 0) : askd (1, col, k, n, s) x = 2 * b2 (decide (x = (k, n, s))) := by unfold askd; rw [if_neg (show ¬ (1 : Int) = 4 by decide), if_neg h, if_pos rfl]
theorem askd_two {col k : Int} {n : Nat} {s : ByteArray} {x : Cel} (h : x.1 ≠ 0) : askd (2, col, k, n, s) x = 2 * b2 (Cel.less x (k, n, s)) := by unfold askd; rw [if_neg (show ¬ (2 : Int) = 4 by decide), if_neg h, if_neg (show ¬ (2 : Int) = 1 by decide), if_pos rfl]
theorem askd_three {col k : Int} {n : Nat} {s : ByteArray} {x : Cel} (h : x.1 ≠ 0) : askd (3, col, k, n, s) x = 2 * b2 (Cel.less (k, n, s) x) := by unfold askd; rw [if_neg (show ¬ (3 : Int) = 4 by decide), if_neg h, if_neg (show ¬ (3 : Int) = 1 by decide), if_neg (show ¬ (3 : Int) = 2 by decide)]
end Hy.Cnd
end
section
namespace Hy.Cnd
theorem alone_size16 {kind : Int} {c : Cel} (h : Cel.alone kind c = 0) : c.2.2.size ≤ 16 := by
  unfold Cel.alone at h
  by_cases h1 : c.1 ≠ 0 ∧ c.1 ≠ kind
  · rw [if_pos h1] at h; omega
  · rw [if_neg h1] at h
    by_cases h2 : (c.1 ≠ 1 ∧ c.2.1 ≠ 0) ∨ (c.1 ≠ 2 ∧ c.2.2.size ≠ 0)
    · rw [if_pos h2] at h; omega
    · rw [if_neg h2] at h
      by_cases h3 : 16 < c.2.2.size
      · rw [if_pos h3] at h; omega
      · omega
/-- what is known of a leaf that is right -/
theorem leaf_ok {ks : List Int} {c : Cnd} (h : al ks c = 0) (hs : sz c.1 = 0) :
    0 ≤ c.2.1 ∧ c.2.1 < (ks.length : Int) ∧ 1 ≤ c.1 ∧ c.1 ≤ 4 ∧ c.2.2.2.2.size ≤ 16 ∧ (c.1 = 4 → c.2.2 = O) ∧ (c.1 ≠ 4 → Cel.alone (ks.getD c.2.1.toNat 0) c.2.2 = 0 ∧ c.2.2.1 ≠ 0) ∧ (ks.getD c.2.1.toNat 0 = 1 ∨ ks.getD c.2.1.toNat 0 = 2) := by
  have hr := al_rng h
  have h4 : c.1 ≤ 4 := by
    unfold sz at hs
    by_cases h1 : c.1 = 5 ∨ c.1 = 6
    · rw [if_pos h1] at hs; omega
    · rw [if_neg h1] at hs
      by_cases h2 : c.1 = 7
      · rw [if_pos h2] at hs; omega
      · omega
  obtain ⟨op, col, cl⟩ := c
  simp only at hr h4 hs ⊢
  have hl : lf ks (op, col, cl) = 0 := by
    unfold al at h
    rw [if_neg (by simp only; omega), if_pos (show sz (op, col, cl).1 = 0 from hs)] at h
    exact h
  by_cases h0 : col < 0 ∨ (ks.length : Int) ≤ col
  · rw [lf_out h0] at hl; omega
  · obtain ⟨j, rfl⟩ : ∃ j : Nat, col = (j : Int) := ⟨col.toNat, by omega⟩
    have hj : j < ks.length := by omega
    rw [lf_in j hj] at hl
    have hg : ks.getD ((j : Int)).toNat 0 = ks[j] := by simp [hj]
    rw [hg]
    rcases lfk_ways ks[j] op cl with ⟨g1, h1⟩ | ⟨g1, g2, g3, h1⟩ | ⟨g1, g2, g3, h1⟩ | ⟨g1, g2, g3, h1⟩ | ⟨g1, g2, g3, g4, h1⟩ | ⟨g1, g2, g3, g4, h1⟩
    · omega
    · refine ⟨by omega, by omega, hr.1, h4, by rw [g3]; decide, fun _ => g3, fun h => absurd g2 h, g1⟩
    · omega
    · omega
    · omega
    · exact ⟨by omega, by omega, hr.1, h4, alone_size16 g3, fun h => absurd h g2, fun _ => ⟨g3, g4⟩, g1⟩
/-- what a leaf is of a row -/
def askf (row : List Cel) (c : Cnd) : Nat := askd c (row.getD c.2.1.toNat O)
theorem askf_le (row : List Cel) (c : Cnd) : askf row c ≤ 2 := askd_le _ _
theorem ev_le {B : Nat} {f : Cnd → Nat} {j : Int → Nat → Nat → Nat} (hf : ∀ c, f c ≤ B) (hj : ∀ op x y, x ≤ B → y ≤ B → j op x y ≤ B) (t : Tm) : t.ev f j ≤ B := by
  induction t with
  | lf c => exact hf c
  | nt c t ih => exact hj _ _ _ ih ih
  | jn c a b iha ihb => exact hj _ _ _ iha ihb
theorem sz1 {op : Int} (h : sz op = 1) : op = 7 := by
  unfold sz at h
  by_cases h1 : op = 5 ∨ op = 6
  · rw [if_pos h1] at h; omega
  · rw [if_neg h1] at h
    by_cases h2 : op = 7
    · exact h2
    · rw [if_neg h2] at h; omega
theorem sz2 {op : Int} (h : sz op = 2) : op = 5 ∨ op = 6 := by
  unfold sz at h
  by_cases h1 : op = 5 ∨ op = 6
  · exact h1
  · rw [if_neg h1] at h; split at h <;> omega
end Hy.Cnd
namespace Go.Proofs.YtolhifnlahllnaaGreatDoor
open Go.RowKit Hy
set_option maxHeartbeats 800000 in
theorem rawLeaf_any (c : Cnd) (l : List Cel) (A : Option Addr) (n cap g : Nat) (w : World) (hn : l.length = n) (hr : Rd w A (cls l)) (hg : w.cell? ⟨g, 0, none⟩ = some (.slice A n cap)) (h0 : 0 ≤ c.2.1) (h1 : c.2.1 < (n : Int)) :
    Calls Tryz.prog 92 #[cndV c, .pointer (some ⟨g, 0, none⟩)] w fun e w' => e = .returned (.int .i64 (Cnd.askf l c : Nat)) ∧ Ext w w' := by
  obtain ⟨op, col, k, nn, s⟩ := c
  simp only at h0 h1
  obtain ⟨j, rfl⟩ : ∃ j : Nat, col = (j : Int) := ⟨col.toNat, by omega⟩
  have hj : j < l.length := by omega
  obtain ⟨b, o, rfl, lb, cb⟩ := hr.cels j hj
  obtain ⟨r0, r1, r2⟩ := cb j hj
  have hx : Cnd.askf l (op, (j : Int), k, nn, s) = Cnd.askd (op, (j : Int), k, nn, s) l[j] := by
    unfold Cnd.askf; simp only [Int.toNat_natCast]; rw [List.getD_eq_getElem?_getD, List.getElem?_eq_getElem hj]; rfl
  rw [hx]
  clear cb hr hx hn
  generalize l[j] = x at *
  clear hj
  obtain ⟨k', n', s'⟩ := x
  simp only at r0 r1 r2
  have G := hid (fun wx => asked_any (op, (j : Int), k, nn, s) (k', n', s') wx)
  generalize Cnd.askd (op, (j : Int), k, nn, s) (k', n', s') = v at *
  have lg := block_lt_of_cell hg
  simp only at lg
  go_enter Tryz.func92, Tryz.ntmps92
  go_wp2
  refine wp_gen (fun w' => Ext w w' ∧ Blk w' w.heap.size 58 #[.int .i64 op, .int .i64 j, .int .i64 k, .int .u64 (nn : Int), .string s]) ⟨(ext_refl _).new _, Blk.new _ _ _⟩ ?_
  rintro wz ⟨B, B1⟩
  have a0 := cell_regrown (B1.cell 0)
  have a1 := cell_regrown (B1.cell 1)
  have a2 := cell_regrown (B1.cell 2)
  have a3 := cell_regrown (B1.cell 3)
  have a4 := cell_regrown (B1.cell 4)
  have hgr := cell_regrown (ext_cell B hg)
  have r0r := cell_regrown (ext_cell B r0)
  have r1r := cell_regrown (ext_cell B r1)
  have r2r := cell_regrown (ext_cell B r2)
  clear hg r0 r1 r2
  refine wp_region_quiet_below (by kernel_rfl) (by kernel_rfl) ?_
  repeat (go_big_quiet_step ((go_at_call 93; exact Gives.quiet G.out _ _ _)))
  refine wpQuiet_nil ?_
  intro w9 hw9
  obtain ⟨p, rfl⟩ := hw9
  go_wp2
  go_returns
  exact ⟨rfl, B.then (ext_regrown wz p)⟩
theorem raw_any' (ks : List Int) (p : List Cnd) (row : List Cel) (P R : Option Addr) (n pcap m rcap : Nat) (w : World) (hr : Cnd.chk ks p = 0) (hn : p.length = n) (hp : Rd w P (cns p)) (hm : row.length = m) (hk : ks.length = m) (hrr : Rd w R (cls row)) :
    Calls Tryz.prog 75 #[.slice P n pcap, .slice R m rcap] w fun e w' => e = .returned (.int .i64 (Cnd.val (Cnd.askf row) Cnd.jn p : Nat)) ∧ Ext w w' := by
  have hal := Cnd.chk_al hr
  have HW := hid (fun (g : Nat) wx (hx : Ext w wx) (hg : wx.cell? ⟨g, 0, none⟩ = some (.slice R m rcap)) => walkI_any ks p (Cnd.askf row) P n pcap g wx hr hn (hp.keep hx) (fun c _ => Cnd.askf_le row c) (fun c hc hs wy hy => by
    obtain ⟨h0, h1, _⟩ := Cnd.leaf_ok (hal c hc) hs
    exact rawLeaf_any c row R m rcap g wy hm (hrr.keep (hx.then hy)) (ext_cell hy hg) h0 (by omega)))
  generalize Cnd.val (Cnd.askf row) Cnd.jn p = v at *
  clear hr hn hp hm hk hrr hal
  go_enter Tryz.func75, Tryz.ntmps75
  go_wp2_with (go_at_call 91; go_loud (refine (HW.out _ _ ((ext_refl _).new _) ((Blk.new _ _ _).cell 0)).mono ?_; rintro e w2 ⟨rfl, x2⟩; have X2 := hid (((ext_refl w).new _).then x2); clear x2))
  go_returns
  exact ⟨rfl, X2.out⟩
end Go.Proofs.YtolhifnlahllnaaGreatDoor
end
