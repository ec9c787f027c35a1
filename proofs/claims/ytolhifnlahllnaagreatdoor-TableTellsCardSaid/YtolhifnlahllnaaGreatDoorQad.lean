/- Conditions: truth values: walks. Conditions: asked, known; leafSet: walks. Conditions: lists of small ints in rows of one's own. No program in sight; walk[int]: the walk (printed by gen_qpw.py). Conditions: condBegin, CondOf: walks, down the tree. Conditions: CondOf: walks, from the root down. Conditions: CondOf of two; CondOf: walks, from the root down. Conditions: CondOf, Raw: walks. Conditions: Ask, AskOf: walks (printed by gen_qpn.py). -/
import Derived.Test.YtolhifnlahllnaaGreatDoorQab
import Derived.Test.YtolhifnlahllnaaGreatDoorCed
import Derived.Test.YtolhifnlahllnaaGreatDoorGen
import Derived.Test.YtolhifnlahllnaaGreatDoorGhx
import Derived.Test.YtolhifnlahllnaaGreatDoorQac
import Derived.Test.YtolhifnlahllnaaGreatDoorQpb
section
namespace Hy.Cnd
theorem code_last (t : Tm) : ∃ c r, t.code = r ++ [c] ∧ ((t = .lf c ∧ r = []) ∨ (∃ u, t = .nt c u ∧ r = u.code) ∨ (∃ a b, t = .jn c a b ∧ r = a.code ++ b.code)) := by
  cases t with
  | lf c => exact ⟨c, [], rfl, .inl ⟨rfl, rfl⟩⟩
  | nt c u => exact ⟨c, u.code, rfl, .inr (.inl ⟨u, rfl, rfl⟩)⟩
  | jn c a b => exact ⟨c, a.code ++ b.code, by simp [Tm.code], .inr (.inr ⟨a, b, rfl, rfl⟩)⟩
end Hy.Cnd
namespace Go.Proofs.YtolhifnlahllnaaGreatDoor
open Go.RowKit Hy
/-- one node: as many steps as it is of -/
theorem condBegin_core (l : List Cnd) (P : Option Addr) (n pcap E q : Nat) (A : Nat → Nat) (w : World) (hn : l.length = n) (hp : Rd w P (cns l)) (h16 : n ≤ 16) (hE : E < n) (hq : csz (l[E]'(by omega)).1 = q) (hA0 : A 0 = E) (hA : ∀ k, k ≤ q → A k ≤ 16) (hq2 : q ≤ 2)
    (HC : ∀ k, k < q → Calls Tryz.prog 85 #[.slice P n pcap, .int .i64 (A k : Nat)] w fun e w' => e = .returned (.int .i64 (A (k + 1) : Nat)) ∧ w = w') :
    Calls Tryz.prog 85 #[.slice P n pcap, .int .i64 ((E + 1 : Nat) : Int)] w fun e w' => e = .returned (.int .i64 (A q : Nat)) ∧ w = w' := by
  obtain ⟨b1, o1, e1, l1, c1⟩ := hp.cnds E (by omega)
  subst e1
  have d0 := (c1 E (by omega)).1
  have HS := hid (condSize_any (l[E]'(by omega)).1)
  rw [hq] at HS
  generalize (l[E]'(by omega)).1 = op at *
  have HH := hid HC
  have HAA := hid hA
  have HA0 := hid hA0
  have hEI : (E : Int) < (n : Int) := by omega
  have hnI : (n : Int) ≤ 16 := by omega
  have hqI : (q : Int) ≤ 2 := by omega
  have hE1 : (((E + 1 : Nat) : Int)) - 1 = (E : Int) := by omega
  obtain ⟨F, hF⟩ : ∃ F : Int, F = ((E + 1 : Nat) : Int) := ⟨_, rfl⟩
  rw [← hF] at hE1 ⊢
  have hFI : F ≤ 16 := by omega
  have hF0 : 1 ≤ F := by omega
  clear c1 hp hn HC hA hq hF hE h16 hA0 hq2
  go_enter Tryz.func85, Tryz.ntmps85
  go_wp2
  go_loop [5, 6] (fun x y => ∃ k : Nat, k ≤ q ∧ y = .int .i64 k ∧ x = .int .i64 (A k : Nat)) (fun _ y => q - (intOf y).toNat)
  case atStart => exact ⟨0, Nat.zero_le _, rfl, by rw [HA0.out]⟩
  case round =>
    obtain ⟨k, hk, rfl, rfl⟩ := hrel
    have hAk := HAA.out k hk
    by_cases hlt : k < q
    · have HCK := hid (HH.out k hlt)
      have hltI : (k : Int) < (q : Int) := by omega
      obtain ⟨B, hB⟩ : ∃ B, B = A (k + 1) := ⟨_, rfl⟩
      rw [← hB] at HCK
      have HB := hid hB
      obtain ⟨C, hC⟩ : ∃ C, C = A k := ⟨_, rfl⟩
      rw [← hC] at HCK hAk ⊢
      have HLT := hid hlt
      clear hB hC hlt
      go_wp2_with (first | (go_at_call 84; refine (HS.out _).mono ?_; rintro e w1 ⟨rfl, rfl⟩) | (go_at_call 85; refine HCK.out.mono ?_; rintro e w1 ⟨rfl, rfl⟩))
      go_round
      case rel => exact ⟨k + 1, by have := HLT.out; omega, by go_num, by rw [HB.out]⟩
      case measure => simp [intOf]; have := HLT.out; omega
    · obtain rfl : k = q := by omega
      clear hlt
      go_wp2_with (go_at_call 84; refine (HS.out _).mono ?_; rintro e w1 ⟨rfl, rfl⟩)
      go_returns
      exact ⟨rfl, rfl⟩
theorem condBegin_any (t : Cnd.Tm) : ∀ (l : List Cnd) (P : Option Addr) (n pcap : Nat) (pre post : List Cnd) (w : World), t.ok → l = pre ++ (t.code ++ post) → (∀ c ∈ l, 1 ≤ c.1 ∧ c.1 ≤ 7) → l.length = n → n ≤ 16 → Rd w P (cns l) →
    Calls Tryz.prog 85 #[.slice P n pcap, .int .i64 ((pre.length + t.code.length : Nat) : Int)] w fun e w' => e = .returned (.int .i64 (pre.length : Nat)) ∧ w = w' := by
  have hcs : ∀ op : Int, 1 ≤ op ∧ op ≤ 7 → csz op = (Cnd.sz op : Nat) := fun op h => by unfold csz; rw [if_neg (by omega)]
  induction t with
  | lf c =>
    intro l P n pcap pre post w hok hl hr hn h16 hp
    subst hl
    have hat : ∀ h, (pre ++ ((Cnd.Tm.lf c).code ++ post))[pre.length]'h = c := fun h => by simp [Cnd.Tm.code]
    refine condBegin_core _ P n pcap pre.length 0 (fun _ => pre.length) w hn hp h16 (by rw [← hn]; simp [Cnd.Tm.code]) ?_ rfl (fun _ _ => by simp [Cnd.Tm.code] at hn; omega) (by decide) (fun k hk => absurd hk (Nat.not_lt_zero _))
    rw [hat, hcs _ (hr c (by simp [Cnd.Tm.code]))]
    have : Cnd.sz c.1 = 0 := hok
    rw [this]
  | nt c u ih =>
    intro l P n pcap pre post w hok hl hr hn h16 hp
    subst hl
    have hlen : n = pre.length + u.code.length + 1 + post.length := by rw [← hn]; simp [Cnd.Tm.code]; omega
    have hat : ∀ h, (pre ++ ((Cnd.Tm.nt c u).code ++ post))[pre.length + u.code.length]'h = c := fun h => by
      simp only [Cnd.Tm.code, List.append_assoc]
      rw [List.getElem_append_right (by omega), List.getElem_append_right (by omega)]
      simp
    have hcb := ih _ P n pcap pre ([c] ++ post) w hok.2 (by simp [Cnd.Tm.code]) hr hn h16 hp
    have := condBegin_core _ P n pcap (pre.length + u.code.length) 1 (fun k => if k = 0 then pre.length + u.code.length else pre.length) w hn hp h16 (by omega) (by
      rw [hat, hcs _ (hr c (by simp [Cnd.Tm.code]))]
      have : Cnd.sz c.1 = 1 := hok.1
      rw [this]) rfl (fun k _ => by split <;> omega) (by decide) (fun k hk => by
      obtain rfl : k = 0 := by omega
      exact hcb)
    rw [show pre.length + (Cnd.Tm.nt c u).code.length = pre.length + u.code.length + 1 by simp [Cnd.Tm.code]; omega]
    exact this
  | jn c a b iha ihb =>
    intro l P n pcap pre post w hok hl hr hn h16 hp
    subst hl
    have hlen : n = pre.length + a.code.length + b.code.length + 1 + post.length := by rw [← hn]; simp [Cnd.Tm.code]; omega
    have hat : ∀ h, (pre ++ ((Cnd.Tm.jn c a b).code ++ post))[pre.length + a.code.length + b.code.length]'h = c := fun h => by
      simp only [Cnd.Tm.code, List.append_assoc]
      rw [List.getElem_append_right (by omega), List.getElem_append_right (by omega), List.getElem_append_right (by omega)]
      have e : pre.length + a.code.length + b.code.length - pre.length - a.code.length - b.code.length = 0 := by omega
      simp only [e, List.cons_append, List.getElem_cons_zero]
    have hca := iha _ P n pcap pre (b.code ++ ([c] ++ post)) w hok.2.1 (by simp [Cnd.Tm.code]) hr hn h16 hp
    have hcb := ihb _ P n pcap (pre ++ a.code) ([c] ++ post) w hok.2.2 (by simp [Cnd.Tm.code]) hr hn h16 hp
    rw [List.length_append] at hcb
    have := condBegin_core _ P n pcap (pre.length + a.code.length + b.code.length) 2 (fun k => if k = 0 then pre.length + a.code.length + b.code.length else if k = 1 then pre.length + a.code.length else pre.length) w hn hp h16 (by omega) (by
      rw [hat, hcs _ (hr c (by simp [Cnd.Tm.code]))]
      have : Cnd.sz c.1 = 2 := hok.1
      rw [this]) rfl (fun k _ => by (repeat' split) <;> omega) (by decide) (fun k hk => by
      rcases (by omega : k = 0 ∨ k = 1) with rfl | rfl
      · exact hcb
      · exact hca)
    rw [show pre.length + (Cnd.Tm.jn c a b).code.length = pre.length + a.code.length + b.code.length + 1 by simp [Cnd.Tm.code]; omega]
    exact this
end Go.Proofs.YtolhifnlahllnaaGreatDoor
end
section
namespace Go.Proofs.YtolhifnlahllnaaGreatDoor
open Go.RowKit Hy
theorem infoCond : (Tryz.prog.info? 58).map (·.size) = some 5 := by kernel_rfl
set_option maxHeartbeats 1600000 in
theorem condOf_leaf (c : Cnd) (P R : Option Addr) (pcap m rcap j : Nat) (row : List Cel) (w : World) (hp : Rd w P (cns [c])) (hop : 1 ≤ c.1 ∧ c.1 ≤ 4) (hcol : c.2.1 = (j : Int)) (hj : j < m) (hm : row.length = m) (hr : Rd w R (cls row)) (hml : m ≤ 140737488355328)
    (hs : c.2.2.2.2.size ≤ 140737488355328) (hrs : ∀ x ∈ row, x.2.2.size ≤ 140737488355328) :
    Calls Tryz.prog 50 #[.slice P 1 pcap, .slice R m rcap] w fun e w' => e = .returned (.int .i64 (Cnd.askd c (row.getD j Cnd.O) : Nat)) ∧ Ext w w' := by
  obtain ⟨b1, o1, e1, l1, c1⟩ := hp.cnds 0 (by simp)
  subst e1
  obtain ⟨d0, d1, d2, d3, d4⟩ := c1 0 (by simp)
  simp only [List.getElem_cons_zero, Nat.zero_mul, Nat.add_zero] at d0 d1 d2 d3 d4
  have hjr : j < row.length := by omega
  obtain ⟨b2, o2, e2, l2, c2⟩ := hr.cels j hjr
  subst e2
  obtain ⟨r0, r1, r2⟩ := c2 j hjr
  have hx : row.getD j Cnd.O = row[j] := by rw [List.getD_eq_getElem?_getD, List.getElem?_eq_getElem hjr]; rfl
  have hxs := hrs _ (List.getElem_mem hjr)
  rw [hx]
  clear c1 c2 hp hr hx hrs hm
  generalize row[j] = x at *
  obtain ⟨op, col, k, n, s⟩ := c
  obtain ⟨k', n', s'⟩ := x
  simp only at d0 d1 d2 d3 d4 r0 r1 r2 hop hcol hs hxs
  subst hcol
  have hjI : (j : Int) < (m : Int) := by omega
  have hmI : (m : Int) ≤ 140737488355328 := by omega
  have HL1 := hid (fun wx => cellLess_any (k', n', s') (k, n, s) wx hxs hs)
  have HL2 := hid (fun wx => cellLess_any (k, n, s) (k', n', s') wx hs hxs)
  have hq := fun w => cel_eql k' k n' n s' s w
  have hways : (op = 4 ∧ k' = 0) ∨ (op = 4 ∧ k' ≠ 0) ∨ (op ≠ 4 ∧ k' = 0) ∨ (op = 1 ∧ k' ≠ 0) ∨ (op = 2 ∧ k' ≠ 0) ∨ (op = 3 ∧ k' ≠ 0) := by omega
  clear hs hxs hj hjr
  rcases hways with ⟨rfl, rfl⟩ | ⟨rfl, h0⟩ | ⟨h4, rfl⟩ | ⟨rfl, h0⟩ | ⟨rfl, h0⟩ | ⟨rfl, h0⟩
  · rw [Cnd.askd_four]
    clear hop hq HL1 HL2
    go_enter Tryz.func50, Tryz.ntmps50
    go_wp2
    go_returns
    exact ⟨rfl, ((ext_refl _).new _).new _⟩
  · rw [Cnd.askd_four, decide_eq_false (show ¬ ((k', n', s') : Cel).1 = 0 from h0)]
    have e0 : (k' == 0) = false := beq_eq_false_iff_ne.2 h0
    clear hop hq HL1 HL2 h0
    go_enter Tryz.func50, Tryz.ntmps50
    go_wp2
    go_returns
    exact ⟨rfl, ((ext_refl _).new _).new _⟩
  · rw [Cnd.askd_null h4 rfl]
    have e4 : (op != 4) = true := by simp; exact h4
    have e7 : (op == 7) = false := by rw [beq_eq_false_iff_ne]; omega
    have e5 : (op ≥ 5) = False := by simp; omega
    obtain ⟨g1, g2⟩ := hop
    clear hq HL1 HL2 h4
    go_enter Tryz.func50, Tryz.ntmps50
    go_wp2
    go_returns
    exact ⟨rfl, ((ext_refl _).new _).new _⟩
  · rw [Cnd.askd_one h0]
    have e0 : (k' == 0) = false := beq_eq_false_iff_ne.2 h0
    clear hop HL1 HL2 h0
    generalize decide (((k', n', s') : Cel) = (k, n, s)) = q at *
    cases q
    all_goals (
      go_enter Tryz.func50, Tryz.ntmps50
      go_wp2
      go_returns
      exact ⟨rfl, ((ext_refl _).new _).new _⟩)
  · rw [Cnd.askd_two h0]
    have e0 : (k' == 0) = false := beq_eq_false_iff_ne.2 h0
    clear hop HL2 h0 hq
    generalize Cel.less (k', n', s') (k, n, s) = q at *
    cases q
    all_goals (
      go_enter Tryz.func50, Tryz.ntmps50
      go_upto_region 3 with fail
      refine wp_gen (fun w' => Ext w w' ∧ Blk w' w.heap.size 58 #[.int .i64 2, .int .i64 j, .int .i64 k, .int .u64 (n : Int), .string s]) ⟨(ext_refl _).new _, Blk.new _ _ _⟩ ?_
      rintro wz ⟨B, B1⟩
      have l3 := B1.lt
      have a0 := B1.cell 0
      have a1 := B1.cell 1
      have a2 := B1.cell 2
      have a3 := B1.cell 3
      have a4 := B1.cell 4
      have r0z := ext_cell B r0
      have r1z := ext_cell B r1
      have r2z := ext_cell B r2
      clear r0 r1 r2 d0 d1 d2 d3 d4
      go_wp2_with (go_at_call 86; go_loud (refine (HL1.out _).mono ?_; rintro e w2 ⟨rfl, x2⟩; have a0' := ext_cell x2 ((B1.alloc _).cell 0); have X2 := hid ((B.new _).then x2); clear x2))
      go_returns
      exact ⟨rfl, X2.out⟩)
  · rw [Cnd.askd_three h0]
    have e0 : (k' == 0) = false := beq_eq_false_iff_ne.2 h0
    clear hop HL1 h0 hq
    generalize Cel.less (k, n, s) (k', n', s') = q at *
    cases q
    all_goals (
      go_enter Tryz.func50, Tryz.ntmps50
      go_upto_region 3 with fail
      refine wp_gen (fun w' => Ext w w' ∧ Blk w' w.heap.size 58 #[.int .i64 3, .int .i64 j, .int .i64 k, .int .u64 (n : Int), .string s]) ⟨(ext_refl _).new _, Blk.new _ _ _⟩ ?_
      rintro wz ⟨B, B1⟩
      have l3 := B1.lt
      have a0 := B1.cell 0
      have a1 := B1.cell 1
      have a2 := B1.cell 2
      have a3 := B1.cell 3
      have a4 := B1.cell 4
      have r0z := ext_cell B r0
      have r1z := ext_cell B r1
      have r2z := ext_cell B r2
      clear r0 r1 r2 d0 d1 d2 d3 d4
      go_wp2_with (go_at_call 86; go_loud (refine (HL2.out _).mono ?_; rintro e w2 ⟨rfl, x2⟩; have X2 := hid ((B.new _).then x2); clear x2))
      go_returns
      exact ⟨rfl, X2.out⟩)
set_option maxHeartbeats 1600000 in
theorem condOf_nt (c : Cnd) (r : List Cnd) (P R : Option Addr) (q pcap m rcap v : Nat) (w : World) (hp : Rd w P (cns (r ++ [c]))) (hq : r.length = q) (hop : c.1 = 7) (h16 : q + 1 ≤ 16) (hcap : q + 1 ≤ pcap) (hv : v ≤ 2)
    (HU : ∀ wx, Ext w wx → Calls Tryz.prog 50 #[.slice P q pcap, .slice R m rcap] wx fun e w' => e = .returned (.int .i64 (v : Nat)) ∧ Ext wx w') :
    Calls Tryz.prog 50 #[.slice P (q + 1) pcap, .slice R m rcap] w fun e w' => e = .returned (.int .i64 (Cnd.jn c.1 v v : Nat)) ∧ Ext w w' := by
  have hjv : ((Cnd.jn c.1 v v : Nat) : Int) = 2 - (v : Int) := by
    rw [hop]; unfold Cnd.jn; rw [if_neg (by decide), if_neg (by decide)]; omega
  rw [hjv]
  have hvI : (v : Int) ≤ 2 := by omega
  obtain ⟨b1, o1, e1, l1, c1⟩ := hp.cnds q (by rw [List.length_append, hq]; simp)
  have hS1 : ∀ w, (Instr.sliceAt 26 (.slice P (q + 1) pcap) none (some (.int .i64 (q : Int))) none).run Tryz.prog w = .ok (.slice P q pcap) w := fun w => sl_to Tryz.underlying26 infoCond P (q + 1) pcap .i64 q (by omega) w
  subst e1
  obtain ⟨d0, d1, d2, d3, d4⟩ := c1 q (by rw [List.length_append, hq]; simp)
  have hat : ∀ h, (r ++ [c])[q]'h = c := fun h => by rw [List.getElem_append_right (by omega)]; simp
  rw [hat] at d0 d1 d2 d3 d4
  obtain ⟨op, col, k, n, s⟩ := c
  simp only at d0 d1 d2 d3 d4 hop
  subst hop
  have HUU := hid HU
  have hqI : (q : Int) + 1 ≤ 16 := by omega
  have hq1 : (((q + 1 : Nat) : Nat) : Int) - 1 = (q : Int) := by omega
  clear c1 hp hat HU hjv hq h16 hcap hv
  go_enter Tryz.func50, Tryz.ntmps50
  go_wp2_with (go_at_call 50; go_loud (refine (HUU.out _ ((ext_refl _).new _)).mono ?_; rintro e w2 ⟨rfl, x2⟩; have X2 := hid (((ext_refl w).new _).then x2); clear x2))
  go_returns
  exact ⟨rfl, X2.out⟩
end Go.Proofs.YtolhifnlahllnaaGreatDoor
end
section
namespace Go.Proofs.YtolhifnlahllnaaGreatDoor
open Go.RowKit Hy
set_option maxHeartbeats 3200000 in
set_option maxRecDepth 100000 in
theorem condOf_jn (c : Cnd) (r : List Cnd) (P R B2 : Option Addr) (q ka n2 c2 pcap m rcap x y : Nat) (w : World) (hp : Rd w P (cns (r ++ [c]))) (hq : r.length = q) (hop : c.1 = 5 ∨ c.1 = 6) (h16 : q + 1 ≤ 16) (hcap : q + 1 ≤ pcap) (hka : ka ≤ q) (hx : x ≤ 2) (hy : y ≤ 2)
    (hB2 : B2 = slF P ka pcap 5) (hn2 : n2 = q - ka) (hc2 : c2 = pcap - ka)
    (HB : ∀ wx, Ext w wx → Calls Tryz.prog 85 #[.slice P (q + 1) pcap, .int .i64 (q : Nat)] wx fun e w' => e = .returned (.int .i64 (ka : Nat)) ∧ wx = w')
    (HX : ∀ wx, Ext w wx → Calls Tryz.prog 50 #[.slice P ka pcap, .slice R m rcap] wx fun e w' => e = .returned (.int .i64 (x : Nat)) ∧ Ext wx w')
    (HY : ∀ wx, Ext w wx → Calls Tryz.prog 50 #[.slice B2 n2 c2, .slice R m rcap] wx fun e w' => e = .returned (.int .i64 (y : Nat)) ∧ Ext wx w') :
    Calls Tryz.prog 50 #[.slice P (q + 1) pcap, .slice R m rcap] w fun e w' => e = .returned (.int .i64 (Cnd.jn c.1 x y : Nat)) ∧ Ext w w' := by
  obtain ⟨b1, o1, e1, l1, c1⟩ := hp.cnds q (by rw [List.length_append, hq]; simp)
  have hS1 : ∀ w, (Instr.sliceAt 26 (.slice P (q + 1) pcap) none (some (.int .i64 (ka : Int))) none).run Tryz.prog w = .ok (.slice P ka pcap) w := fun w => sl_to Tryz.underlying26 infoCond P (q + 1) pcap .i64 ka (by omega) w
  have hS2 : ∀ w, (Instr.sliceAt 26 (.slice P (q + 1) pcap) (some (.int .i64 (ka : Int))) (some (.int .i64 (q : Int))) none).run Tryz.prog w = .ok (.slice B2 n2 c2) w := fun w => by rw [hB2, hn2, hc2]; exact sl_mid Tryz.underlying26 infoCond P (q + 1) pcap .i64 .i64 ka q (by omega) (by omega) w
  subst e1
  obtain ⟨d0, d1, d2, d3, d4⟩ := c1 q (by rw [List.length_append, hq]; simp)
  have hat : ∀ h, (r ++ [c])[q]'h = c := fun h => by rw [List.getElem_append_right (by omega)]; simp
  rw [hat] at d0 d1 d2 d3 d4
  obtain ⟨op, col, k, n, s⟩ := c
  simp only at d0 d1 d2 d3 d4 hop ⊢
  have HBB := hid HB
  have HXX := hid HX
  have HYY := hid HY
  have hqI : (q : Int) + 1 ≤ 16 := by omega
  have hq1 : (((q + 1 : Nat) : Nat) : Int) - 1 = (q : Int) := by omega
  have hwq : IntKind.i64.wrap ((q : Int) + 1 - 1) = (q : Int) := by rw [IntKind.wrap_i64]; omega
  have hwq0 : IntKind.i64.wrap (((q + 1 : Nat) : Int) - 1) = (q : Int) := by rw [IntKind.wrap_i64]; omega
  have hwq2 : IntKind.i64.wrap (q : Int) = (q : Int) := by rw [IntKind.wrap_i64]; omega
  have hOP := hid hop
  have hXX2 := hid hx
  have hYY2 := hid hy
  have e7 : (op == 7) = false := by rw [beq_eq_false_iff_ne]; omega
  have e5 : (5 : Int) ≤ op := by omega
  clear c1 hp hat HB HX HY hq h16 hcap hx hy hB2 hn2 hc2 hka hop
  go_enter Tryz.func50, Tryz.ntmps50
  go_wp2_with (go_at_call 85; go_loud (refine (HBB.out _ ((ext_refl _).new _)).mono ?_; rintro e w2 ⟨rfl, rfl⟩))
  refine wp_gen (fun w' => Ext w w' ∧ Blk w' w.heap.size 58 #[.int .i64 op, .int .i64 col, .int .i64 k, .int .u64 (n : Int), .string s]) ⟨(ext_refl _).new _, Blk.new _ _ _⟩ ?_
  rintro wz ⟨B, B1⟩
  have HZ := hid B
  have HZ1 := hid B1
  clear d0 d1 d2 d3 d4 B B1
  refine wp_region_walk [(0, true), (1, true), (2, true), (3, true), (5, true), (6, true), (7, true), (8, true), (9, true), (10, true), (4, false), (11, false), (12, true), (13, true)] (by kernel_rfl) (by kernel_rfl) (fun _ _ _ _ _ h => h) (by kernel_rfl) (by rfl) ?_
  simp only [List.filterMap_cons, List.filterMap_nil, List.getElem?_toArray, List.getElem?_cons_zero, List.getElem?_cons_succ, Option.map_some]
  repeat (refine wpM_val (by rfl) ?_; intro K hK; go_big_quiet_op; go_big_quiet_on)
  have Y0 : Ext wz wz.drew := Ext.draw (ext_refl wz)
  refine wpM_do (by rfl) ?_
  intro K hK
  go_simp
  refine Calls.mono (HXX.out _ (HZ.out.then Y0)) ?_
  rintro e w2 ⟨rfl, hx⟩
  have Y1 := Y0.then hx
  refine hK _ _ Y1 ?_
  clear K hK hx
  refine wpM_do (by rfl) ?_
  intro K hK
  go_simp
  refine Calls.mono (HYY.out _ (HZ.out.then Y1)) ?_
  rintro e w3 ⟨rfl, hx⟩
  have Y2 := Y1.then hx
  refine hK _ _ Y2 ?_
  clear K hK hx
  repeat (refine wpM_val (by rfl) ?_; intro K hK; go_big_quiet_op; go_big_quiet_on)
  refine wpM_nil ?_
  have X3 := hid (HZ.out.then Y2)
  have B3 := HZ1.out.keep Y2
  have l3 := B3.lt
  have a0 := B3.cell 0
  clear B3 Y0 Y1 Y2 e7 e5 hS1 hS2
  have hop := hOP.out
  have hx := hXX2.out
  have hy := hYY2.out
  clear hOP hXX2 hYY2 HXX HYY HBB
  rcases (by omega : x = 0 ∨ x = 1 ∨ x = 2) with rfl | rfl | rfl <;> rcases (by omega : y = 0 ∨ y = 1 ∨ y = 2) with rfl | rfl | rfl <;> rcases hop with rfl | rfl
  all_goals (
    clear hx hy
    go_wp2
    go_returns
    exact ⟨by simp [Cnd.jn], X3.out⟩)
end Go.Proofs.YtolhifnlahllnaaGreatDoor
end
section
namespace Go.Proofs.YtolhifnlahllnaaGreatDoor
open Go.RowKit Hy
theorem condOf_tree (ks : List Int) (row : List Cel) (R : Option Addr) (m rcap : Nat) (hm : row.length = m) (hk : ks.length = m) (hml : m ≤ 140737488355328) (hrs : ∀ x ∈ row, x.2.2.size ≤ 140737488355328) (t : Cnd.Tm) :
    ∀ (P : Option Addr) (n pcap : Nat) (w : World), t.ok → t.code.length = n → n ≤ 16 → n ≤ pcap → Rd w P (cns t.code) → Rd w R (cls row) → (∀ c ∈ t.code, Cnd.al ks c = 0) →
    Calls Tryz.prog 50 #[.slice P n pcap, .slice R m rcap] w fun e w' => e = .returned (.int .i64 (t.ev (Cnd.askf row) Cnd.jn : Nat)) ∧ Ext w w' := by
  have hev : ∀ u : Cnd.Tm, u.ev (Cnd.askf row) Cnd.jn ≤ 2 := fun u => Cnd.ev_le (Cnd.askf_le row) (fun op x y hx hy => Cnd.jn_le hx hy) u
  induction t with
  | lf c =>
    intro P n pcap w hok hn h16 hcap hp hr hal
    obtain ⟨h0, h1, h2, h3, h4, _⟩ := Cnd.leaf_ok (hal c (by simp [Cnd.Tm.code])) hok
    subst hn
    exact condOf_leaf c P R pcap m rcap c.2.1.toNat row w hp ⟨h2, h3⟩ (by omega) (by omega) hm hr hml (by omega) hrs
  | nt c u ih =>
    intro P n pcap w hok hn h16 hcap hp hr hal
    have hq : n = u.code.length + 1 := by rw [← hn]; simp [Cnd.Tm.code]
    subst hq
    refine condOf_nt c u.code P R u.code.length pcap m rcap _ w hp rfl (Cnd.sz1 hok.1) h16 hcap (hev u) fun wx hx => ?_
    exact ih P u.code.length pcap wx hok.2 rfl (by omega) (by omega) (by
      have := hp.keep hx
      simp only [Cnd.Tm.code, cns_app] at this
      exact this.pre) (hr.keep hx) (fun d hd => hal d (by simp [Cnd.Tm.code, hd]))
  | jn c a b iha ihb =>
    intro P n pcap w hok hn h16 hcap hp hr hal
    have hq : n = (a.code ++ b.code).length + 1 := by rw [← hn]; simp [Cnd.Tm.code]; omega
    have hlen : (a.code ++ b.code).length = a.code.length + b.code.length := List.length_append
    have hcode : (Cnd.Tm.jn c a b).code = (a.code ++ b.code) ++ [c] := by simp [Cnd.Tm.code]
    have hal2 : ∀ d ∈ (a.code ++ b.code) ++ [c], Cnd.al ks d = 0 := by rw [← hcode]; exact hal
    rw [hcode] at hp
    subst hq
    refine condOf_jn c (a.code ++ b.code) P R (slF P a.code.length pcap 5) (a.code ++ b.code).length a.code.length b.code.length (pcap - a.code.length) pcap m rcap _ _ w hp rfl (Cnd.sz2 hok.1) h16 hcap (by omega) (hev a) (hev b) rfl (by omega) rfl ?_ ?_ ?_
    · intro wx hx
      have := condBegin_any b ((a.code ++ b.code) ++ [c]) P ((a.code ++ b.code).length + 1) pcap a.code [c] wx hok.2.2 (by simp) (fun d hd => Cnd.al_rng (hal2 d hd)) (by simp; omega) h16 (hp.keep hx)
      rw [hlen]
      rw [hlen] at this
      exact this
    · intro wx hx
      exact iha P a.code.length pcap wx hok.2.1 rfl (by omega) (by omega) (by
        have := hp.keep hx
        rw [List.append_assoc, cns_app] at this
        exact this.pre) (hr.keep hx) (fun d hd => hal2 d (by simp [hd]))
    · intro wx hx
      refine ihb (slF P a.code.length pcap 5) b.code.length (pcap - a.code.length) wx hok.2.2 rfl (by omega) (by omega) ?_ (hr.keep hx) (fun d hd => hal2 d (by simp [hd]))
      have h1 := Rd.from (f := cnd5) (m := 5) (fun _ => rfl) (hp.keep hx) a.code.length pcap (by simp; omega)
      rw [List.append_assoc, List.drop_left] at h1
      have h2 : Rd wx (slF P a.code.length pcap 5) (cns (b.code ++ [c])) := h1
      rw [cns_app] at h2
      exact h2.pre
/-- of a condition that is right -/
theorem condOf_any (ks : List Int) (p : List Cnd) (row : List Cel) (P R : Option Addr) (n pcap m rcap : Nat) (w : World) (hr : Cnd.chk ks p = 0) (hn : p.length = n) (hcap : n ≤ pcap) (hp : Rd w P (cns p)) (hm : row.length = m) (hk : ks.length = m) (hml : m ≤ 140737488355328) (hrr : Rd w R (cls row)) (hrs : ∀ x ∈ row, x.2.2.size ≤ 140737488355328) :
    Calls Tryz.prog 50 #[.slice P n pcap, .slice R m rcap] w fun e w' => e = .returned (.int .i64 (Cnd.val (Cnd.askf row) Cnd.jn p : Nat)) ∧ Ext w w' := by
  have hal := Cnd.chk_al hr
  obtain ⟨t, ht, rfl, h16⟩ := Cnd.right_tree hr
  rw [Cnd.val_code _ _ t ht]
  exact condOf_tree ks row R m rcap hm hk hml hrs t P n pcap w ht hn (by omega) hcap hp hrr hal
end Go.Proofs.YtolhifnlahllnaaGreatDoor
end
section
namespace Hy.Cnd
/-- what is wrong with a row: cell by cell, each by its column's kind -/
def rchk : List Int → List Cel → Nat
  | k :: ks, c :: r => if Cel.cchk k [c] ≠ 0 then Cel.cchk k [c] else rchk ks r
  | _, _ => 0
theorem rchk_bad {ks : List Int} {row : List Cel} {i : Nat} (hk : i < ks.length) (hr : i < row.length) (h : Cel.cchk ks[i] [row[i]] ≠ 0) : rchk (ks.drop i) (row.drop i) = Cel.cchk ks[i] [row[i]] := by
  rw [List.drop_eq_getElem_cons hk, List.drop_eq_getElem_cons hr]; simp only [rchk]; rw [if_pos h]
theorem rchk_next {ks : List Int} {row : List Cel} {i : Nat} (hk : i < ks.length) (hr : i < row.length) (h : Cel.cchk ks[i] [row[i]] = 0) : rchk (ks.drop i) (row.drop i) = rchk (ks.drop (i + 1)) (row.drop (i + 1)) := by
  rw [List.drop_eq_getElem_cons hk, List.drop_eq_getElem_cons hr]; simp only [rchk]; rw [if_neg (by omega)]
theorem rchk_end (ks : List Int) : rchk ks [] = 0 := by cases ks <;> rfl
theorem rchk_le (ks : List Int) (row : List Cel) : rchk ks row ≤ 7 := by
  induction ks generalizing row with
  | nil => exact Nat.zero_le _
  | cons k ks ih =>
    cases row with
    | nil => exact Nat.zero_le _
    | cons c r => simp only [rchk]; split; exact Cel.cchk_le _ _; exact ih _
/-- what is asked of a row -/
@[irreducible] def ask (ks : List Int) (p : List Cnd) (row : List Cel) : Nat × Nat :=
  if chk ks p ≠ 0 then (0, chk ks p) else if row.length ≠ ks.length then (0, 1) else if rchk ks row ≠ 0 then (0, rchk ks row) else (val (askf row) jn p, 0)
theorem ask_bad {ks : List Int} {p : List Cnd} {row : List Cel} (h : chk ks p ≠ 0) : ask ks p row = (0, chk ks p) := by unfold ask; rw [if_pos h]
theorem ask_len {ks : List Int} {p : List Cnd} {row : List Cel} (h : chk ks p = 0) (h2 : row.length ≠ ks.length) : ask ks p row = (0, 1) := by unfold ask; rw [if_neg (by omega), if_pos h2]
theorem ask_row {ks : List Int} {p : List Cnd} {row : List Cel} (h : chk ks p = 0) (h2 : row.length = ks.length) (h3 : rchk ks row ≠ 0) : ask ks p row = (0, rchk ks row) := by unfold ask; rw [if_neg (by omega), if_neg (by omega), if_pos h3]
theorem ask_ok {ks : List Int} {p : List Cnd} {row : List Cel} (h : chk ks p = 0) (h2 : row.length = ks.length) (h3 : rchk ks row = 0) : ask ks p row = (val (askf row) jn p, 0) := by unfold ask; rw [if_neg (by omega), if_neg (by omega), if_neg (by omega)]
end Hy.Cnd
namespace Go.Proofs.YtolhifnlahllnaaGreatDoor
open Go.RowKit Hy
theorem infoCell : (Tryz.prog.info? 42).map (·.size) = some 3 := by kernel_rfl
set_option maxHeartbeats 3200000 in
set_option maxRecDepth 100000 in
theorem ask_any (ks : List Int) (p : List Cnd) (row : List Cel) (P K R : Option Addr) (n pcap m kcap r rcap : Nat) (w : World) (hn : p.length = n) (hp : Rd w P (cns p)) (hnl : n ≤ 140737488355328) (hm : ks.length = m) (hk : Rd w K (i64s ks)) (hml : m ≤ 140737488355328)
    (hrl : row.length = r) (hrr : Rd w R (cls row)) (hrll : r ≤ 140737488355328) (hrc : r ≤ rcap) :
    Calls Tryz.prog 32 #[.slice P n pcap, .slice K m kcap, .slice R r rcap] w fun e w' => e = .returned (.tuple #[.int .i64 ((Cnd.ask ks p row).1 : Nat), .int .i64 ((Cnd.ask ks p row).2 : Nat)]) ∧ Ext w w' := by
  have HCK := hid (pCheck_any ks p P K n pcap m kcap w hn hp hnl hm hk hml)
  have hc7 := Cnd.chk_le ks p
  have hmI : (m : Int) ≤ 140737488355328 := by omega
  have hrI : (r : Int) ≤ 140737488355328 := by omega
  by_cases h0 : Cnd.chk ks p = 0
  · rw [h0] at HCK
    by_cases h1 : r = m
    · subst h1
      have HKL := hid hm
      have HRL := hid hrl
      have HKR := hid hk
      have HRR := hid hrr
      have HV := hid (fun wx (hx : Ext w wx) => raw_any' ks p row P R n pcap r rcap wx h0 hn (hp.keep hx) hrl hm (hrr.keep hx))
      obtain ⟨V, hV⟩ : ∃ V, V = Cnd.val (Cnd.askf row) Cnd.jn p := ⟨_, rfl⟩
      rw [← hV] at HV
      have HRES := hid (show Cnd.ask ks p row = if Cnd.rchk (ks.drop 0) (row.drop 0) ≠ 0 then (0, Cnd.rchk (ks.drop 0) (row.drop 0)) else (V, 0) by
        by_cases h3 : Cnd.rchk ks row = 0
        · rw [Cnd.ask_ok h0 (by omega) h3, List.drop_zero, List.drop_zero, if_neg (by omega), hV]
        · rw [Cnd.ask_row h0 (by omega) h3, List.drop_zero, List.drop_zero, if_pos h3])
      obtain ⟨Z, hZ⟩ : ∃ Z, Z = Cnd.ask ks p row := ⟨_, rfl⟩
      rw [← hZ] at HRES ⊢
      have HRC := hid hrc
      clear hn hp hnl hm hk hml hrl hrr hrll hV hZ hc7 h0  hrc
      go_enter Tryz.func32, Tryz.ntmps32
      go_wp2_with (first | (go_at_call 36; go_loud (refine HCK.out.mono ?_; rintro e w1 ⟨rfl, x1⟩; have X1 := hid x1; clear x1)))
      go_loopw [10, 25] (fun _ c wr => ∃ k : Nat, k ≤ r ∧ c = .int .i64 k ∧ Hid (Z = if Cnd.rchk (ks.drop k) (row.drop k) ≠ 0 then (0, Cnd.rchk (ks.drop k) (row.drop k)) else (V, 0)) ∧ Ext w wr) (fun _ c _ => r - (intOf c).toNat)
      case atStart => exact ⟨0, Nat.zero_le _, rfl, HRES, X1.out⟩
      case round =>
        obtain ⟨k, hk, rfl, HI, X⟩ := hrel
        by_cases hlt : k < r
        · have hkr : k < row.length := by rw [HRL.out]; exact hlt
          have hkk : k < ks.length := by rw [HKL.out]; exact hlt
          obtain ⟨b1, o1, e1, l1, c1⟩ := HKR.out.ints k hkk
          subst e1
          have d0 := (X.cell (p := ⟨b1, o1 + k, none⟩) l1).trans (c1 k hkk)
          obtain ⟨b2, o2, e2, l2, c2⟩ := HRR.out.cels k hkr
          subst e2
          have r0 := (X.cell (p := ⟨b2, o2 + k * 3, none⟩) l2).trans (c2 k hkr).1
          have r1 := (X.cell (p := ⟨b2, o2 + k * 3 + 1, none⟩) l2).trans (c2 k hkr).2.1
          have r2 := (X.cell (p := ⟨b2, o2 + k * 3 + 2, none⟩) l2).trans (c2 k hkr).2.2
          have HBA := hid (fun h => Cnd.rchk_bad (ks := ks) (row := row) hkk hkr h)
          have HBN := hid (fun h => Cnd.rchk_next (ks := ks) (row := row) hkk hkr h)
          clear c1 c2
          generalize ks[k] = kd at *
          generalize row[k] = x at *
          clear hkr hkk
          obtain ⟨k', n', s'⟩ := x
          simp only at r0 r1 r2
          have HCC := hid (fun (A : Option Addr) (cap : Nat) wx (hx : Rd wx A (cls [(k', n', s')])) => check_any kd [(k', n', s')] A 1 cap wx rfl hx (by decide))
          obtain ⟨E, hE⟩ : ∃ E, E = Cel.cchk kd [(k', n', s')] := ⟨_, rfl⟩
          have hE7 := Cel.cchk_le kd [(k', n', s')]
          rw [← hE] at HCC HBA HBN hE7
          clear hE
          have hkI : (k : Int) < (r : Int) := by omega
          go_wp2
          refine wp_gen (fun w' => Ext wr w' ∧ Blk w' wr.heap.size 42 #[.int .i64 k', .int .u64 (n' : Int), .string s']) ⟨(ext_refl _).new _, Blk.new _ _ _⟩ ?_
          rintro wz ⟨B, B1⟩
          have a0 := cell_regrown (B1.cell 0)
          have a1 := cell_regrown (B1.cell 1)
          have a2 := cell_regrown (B1.cell 2)
          have d0r := cell_regrown (ext_cell B d0)
          have HB := hid B
          clear B B1 d0 r0 r1 r2
          refine wp_region_walk [(0, true), (1, true), (2, true), (3, true), (4, true), (5, false), (6, false), (7, true)] (by kernel_rfl) (by kernel_rfl) (fun _ _ _ _ _ h => h) (by kernel_rfl) (by rfl) ?_
          simp only [List.filterMap_cons, List.filterMap_nil, List.getElem?_toArray, List.getElem?_cons_zero, List.getElem?_cons_succ, Option.map_some]
          repeat (refine wpM_val (by rfl) ?_; intro K hK; go_big_quiet_op; go_big_quiet_on)
          have Y0 : Ext wz wz.drew := Ext.draw (ext_refl wz)
          refine wpM_do (by rfl) ?_
          intro K hK
          go_simp
          have Y1 : Ext wz (wz.drew.alloc (.cells #[.int .i64 k', .int .u64 (n' : Int), .string s'] 42)) := Ext.new Y0 _
          refine hK _ _ Y1 ?_
          clear K hK
          refine wpM_do (by rfl) ?_
          intro K hK
          go_simp
          refine Calls.mono (HCC.out _ _ _ (rd_lit rfl rfl)) ?_
          rintro e w3 ⟨rfl, hx⟩
          have Y2 := Y1.then hx
          refine hK _ _ Y2 ?_
          clear K hK hx
          repeat (refine wpM_val (by rfl) ?_; intro K hK; go_big_quiet_op; go_big_quiet_on)
          refine wpM_nil ?_
          have X3 := hid ((X.then HB.out).then Y2)
          clear Y0 Y1 Y2 a0 a1 a2 d0r
          by_cases hE0 : E = 0
          · have HI2 := hid (show Z = if Cnd.rchk (ks.drop (k + 1)) (row.drop (k + 1)) ≠ 0 then (0, Cnd.rchk (ks.drop (k + 1)) (row.drop (k + 1))) else (V, 0) by rw [HI.out, HBN.out hE0])
            subst hE0
            clear HBA HBN hE7 HI
            go_wp2
            go_roundw
            case rel => exact ⟨k + 1, by omega, by go_num, HI2, X3.out⟩
            case measure => simp [intOf]; omega
          · have HE := hid (show Z = (0, E) by rw [HI.out, HBA.out hE0, if_pos hE0])
            have e1 : ((E : Int) != 0) = true := by simp; omega
            clear HBA HBN hE7 HI hE0
            go_wp2
            go_returns
            exact ⟨by rw [HE.out]; rfl, X3.out⟩
        · obtain rfl : k = r := by omega
          have HE := hid (show Z = (V, 0) by
            rw [HI.out, show row.drop k = [] from List.drop_of_length_le (by rw [HRL.out]; exact Nat.le_refl _), Cnd.rchk_end]; rfl)
          clear HI hlt
          go_wp2_with (go_at_call 75; go_loud (refine (HV.out _ X).mono ?_; rintro e w2 ⟨rfl, x2⟩; have X2 := hid x2; clear x2))
          go_returns
          exact ⟨by rw [HE.out]; rfl, X.then X2.out⟩
    · have HE := hid (Cnd.ask_len h0 (show row.length ≠ ks.length by omega))
      have h1I : ((r : Int) != (m : Int)) = true := by simp; omega
      clear hn hp hnl hm hk hml hrl hrr hrll hc7 h0  hrc h1
      go_enter Tryz.func32, Tryz.ntmps32
      go_wp2_with (first | (go_at_call 36; go_loud (refine HCK.out.mono ?_; rintro e w1 ⟨rfl, x1⟩; have X1 := hid x1; clear x1)))
      go_returns
      exact ⟨by rw [HE.out]; rfl, X1.out⟩
  · have HE := hid (Cnd.ask_bad (row := row) h0)
    obtain ⟨E, hE⟩ : ∃ E, E = Cnd.chk ks p := ⟨_, rfl⟩
    rw [← hE] at HCK HE h0 hc7
    have e1 : ((E : Int) != 0) = true := by simp; omega
    clear hn hp hnl hm hk hml hrl hrr hrll hc7 h0  hE hrc
    go_enter Tryz.func32, Tryz.ntmps32
    go_wp2_with (first | (go_at_call 36; go_loud (refine HCK.out.mono ?_; rintro e w1 ⟨rfl, x1⟩; have X1 := hid x1; clear x1)))
    go_returns
    exact ⟨by rw [HE.out]; rfl, X1.out⟩
end Go.Proofs.YtolhifnlahllnaaGreatDoor
end
