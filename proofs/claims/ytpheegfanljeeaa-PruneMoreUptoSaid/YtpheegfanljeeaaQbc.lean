/- Conditions: SetOf: walks, from the root down (printed by gen_qps.py). Conditions: SetOf of two: walks (printed by gen_qps.py). Conditions: SetOf; Prune, PruneOf: walks (printed by gen_qpu.py). -/
import Derived.Test.YtpheegfanljeeaaQbb
import Derived.Test.YtpheegfanljeeaaQad
section
namespace Hy.Cnd
theorem alls_not : ∀ x : Nat, x < 8 → alls 7 x x = ms (hs x 2) (hs x 1) (hs x 0) := by decide +kernel
theorem sb_yes {v J : Nat} (h : hs v J = true) : sb v J = v := by unfold sb; rw [if_pos h]
theorem sb_no {v J : Nat} (h : hs v J = false) : sb v J = v + 2 ^ J := by unfold sb; rw [if_neg (by rw [h]; decide)]
theorem jn5 (a b : Nat) : jn 5 a b = if b < a then b else a := by unfold jn; rw [if_pos rfl]; split <;> omega
theorem jn6 (a b : Nat) : jn 6 a b = if a < b then b else a := by unfold jn; rw [if_neg (by decide), if_pos rfl]; split <;> omega
end Hy.Cnd
namespace Go.Proofs.Ytpheegfanljeeaa
open Go.RowKit Hy
set_option maxHeartbeats 1600000 in
set_option maxRecDepth 100000 in
theorem setOf_leaf (c : Cnd) (S : List Sta) (Fs : List Bloom.F) (P A B : Option Addr) (pcap m cap cap2 : Nat) (w : World) (hp : Rd w P (cns [c])) (hop : 1 ≤ c.1 ∧ c.1 ≤ 4) (h0 : 0 ≤ c.2.1) (h1 : c.2.1 < (m : Int)) (hm : S.length = m) (hm2 : Fs.length = m) (hml : m ≤ 140737488355328) (hrs : Rd w A (sts S)) (hrf : Rd w B (frs Fs)) (hok : ∀ f ∈ Fs, f.ok)
    (hcn : c.2.2.2.1 < 18446744073709551616) (hcs : c.2.2.2.2.size ≤ 16) (hss : ∀ s ∈ S, s.2.2.1.2.2.size ≤ 140737488355328 ∧ s.2.2.2.2.2.size ≤ 140737488355328) :
    Calls Try.prog 54 #[.slice P 1 pcap, .slice A m cap, .slice B m cap2] w fun e w' => e = .returned (.int .i64 (Cnd.setf S Fs c : Nat)) ∧ Ext w w' := by
  obtain ⟨b1, o1, e1, l1, c1⟩ := hp.cnds 0 (by simp)
  subst e1
  obtain ⟨d0, d1, d2, d3, d4⟩ := c1 0 (by simp)
  simp only [List.getElem_cons_zero, Nat.zero_mul, Nat.add_zero] at d0 d1 d2 d3 d4
  obtain ⟨op, col, k, nn, s⟩ := c
  simp only at d0 d1 d2 d3 d4 hop h0 h1 hcn hcs
  obtain ⟨j, rfl⟩ : ∃ j : Nat, col = (j : Int) := ⟨col.toNat, by omega⟩
  have hj : j < S.length := by omega
  have hj2 : j < Fs.length := by omega
  obtain ⟨b, o, rfl, lb, cb⟩ := hrs.stas j hj
  obtain ⟨b', o', rfl, lb', cb'⟩ := hrf.fours j hj2
  obtain ⟨r0, r1, r2, r3, r4, r5, r6, r7⟩ := cb j hj
  obtain ⟨q0, q1, q2, q3⟩ := cb' j hj2
  rw [Cnd.setf_at hj hj2]
  have hfo := hok _ (List.getElem_mem hj2)
  have hsz := hss _ (List.getElem_mem hj)
  have hmI : (m : Int) ≤ 140737488355328 := by omega
  clear c1 cb cb' hp hrs hrf hm hm2 hok hss
  generalize S[j] = x at *
  generalize Fs[j] = f at *
  clear hj hj2
  have G : Hid (∀ wx, Calls Try.prog 82 #[cndV (op, (j : Int), k, nn, s), staV x, .agg #[.int .u64 (f 0 : Nat), .int .u64 (f 1 : Nat), .int .u64 (f 2 : Nat), .int .u64 (f 3 : Nat)]] wx fun e w' => e = .returned (.int .i64 (Cnd.kn (op, (j : Int), k, nn, s) x f : Nat)) ∧ Ext wx w') :=
    hid (fun wx => leafSet_any (op, (j : Int), k, nn, s) x f wx hop.1 hop.2 hfo hcn (Nat.le_trans hcs (by decide)) hsz.1 hsz.2)
  generalize Cnd.kn (op, (j : Int), k, nn, s) x f = v at *
  obtain ⟨rows, nulls, ⟨lk, ln, ls⟩, mk, mn, mss⟩ := x
  simp only at r0 r1 r2 r3 r4 r5 r6 r7
  obtain ⟨g1, g2⟩ := hop
  clear hfo hcn hcs hsz hml
  generalize f 0 = f0 at *
  generalize f 1 = f1 at *
  generalize f 2 = f2 at *
  generalize f 3 = f3 at *
  go_enter Try.func54, Try.ntmps54
  go_wp2
  refine wp_gen (fun w' => Ext w w' ∧ Blk w' w.heap.size 39 #[.int .i64 op, .int .i64 j, .int .i64 k, .int .u64 (nn : Int), .string s]) ⟨(ext_refl _).new _, Blk.new _ _ _⟩ ?_
  rintro wz ⟨B, B1⟩
  have a0 := cell_regrown (B1.cell 0)
  have a1 := cell_regrown (B1.cell 1)
  have a2 := cell_regrown (B1.cell 2)
  have a3 := cell_regrown (B1.cell 3)
  have a4 := cell_regrown (B1.cell 4)
  have r0r := cell_regrown (ext_cell B r0)
  have r1r := cell_regrown (ext_cell B r1)
  have r2r := cell_regrown (ext_cell B r2)
  have r3r := cell_regrown (ext_cell B r3)
  have r4r := cell_regrown (ext_cell B r4)
  have r5r := cell_regrown (ext_cell B r5)
  have r6r := cell_regrown (ext_cell B r6)
  have r7r := cell_regrown (ext_cell B r7)
  have q0r := cell_regrown (ext_cell B q0)
  have q1r := cell_regrown (ext_cell B q1)
  have q2r := cell_regrown (ext_cell B q2)
  have q3r := cell_regrown (ext_cell B q3)
  clear d0 d1 d2 d3 d4 r0 r1 r2 r3 r4 r5 r6 r7 q0 q1 q2 q3
  refine wp_region_quiet_below (by kernel_rfl) (by kernel_rfl) ?_
  repeat (go_big_quiet_step ((go_at_call 82; exact Gives.quiet G.out _ _ _)))
  refine wpQuiet_nil ?_
  intro w9 hw9
  obtain ⟨p, rfl⟩ := hw9
  go_wp2
  go_returns
  exact ⟨rfl, B.then (ext_regrown wz p)⟩
set_option maxHeartbeats 1600000 in
theorem setOf_nt (c : Cnd) (r : List Cnd) (P A B : Option Addr) (q pcap m cap cap2 v : Nat) (w : World) (hp : Rd w P (cns (r ++ [c]))) (hq : r.length = q) (hop : c.1 = 7) (h16 : q + 1 ≤ 16) (hcap : q + 1 ≤ pcap) (hv : v < 8)
    (HU : ∀ wx, Ext w wx → Calls Try.prog 54 #[.slice P q pcap, .slice A m cap, .slice B m cap2] wx fun e w' => e = .returned (.int .i64 (v : Nat)) ∧ Ext wx w') :
    Calls Try.prog 54 #[.slice P (q + 1) pcap, .slice A m cap, .slice B m cap2] w fun e w' => e = .returned (.int .i64 (Cnd.alls c.1 v v : Nat)) ∧ Ext w w' := by
  rw [hop, Cnd.alls_not v hv]
  have H2 : Hid (∀ wx, Calls Try.prog 24 #[.int .i64 v, .int .i64 2] wx fun e w' => e = .returned (.bool (Cnd.hs v 2)) ∧ wx = w') := hid (fun wx => hasMay_any v 2 hv (by decide) wx)
  have H1 : Hid (∀ wx, Calls Try.prog 24 #[.int .i64 v, .int .i64 1] wx fun e w' => e = .returned (.bool (Cnd.hs v 1)) ∧ wx = w') := hid (fun wx => hasMay_any v 1 hv (by decide) wx)
  have H0 : Hid (∀ wx, Calls Try.prog 24 #[.int .i64 v, .int .i64 0] wx fun e w' => e = .returned (.bool (Cnd.hs v 0)) ∧ wx = w') := hid (fun wx => hasMay_any v 0 hv (by decide) wx)
  have HMS := hid (fun a b c wx => maySet_any a b c wx)
  obtain ⟨b1, o1, e1, l1, c1⟩ := hp.cnds q (by rw [List.length_append, hq]; simp)
  have hS1 : ∀ w, (Instr.sliceAt 22 (.slice P (q + 1) pcap) none (some (.int .i64 (q : Int))) none).run Try.prog w = .ok (.slice P q pcap) w := fun w => sl_to Try.underlying22 infoCond P (q + 1) pcap .i64 q (by omega) w
  subst e1
  obtain ⟨d0, d1, d2, d3, d4⟩ := c1 q (by rw [List.length_append, hq]; simp)
  have hat : ∀ h, (r ++ [c])[q]'h = c := fun h => by rw [List.getElem_append_right (by omega)]; simp
  rw [hat] at d0 d1 d2 d3 d4
  obtain ⟨op, col, k, n, s⟩ := c
  simp only at d0 d1 d2 d3 d4 hop
  subst hop
  have HUU := hid HU
  have hqI : (q : Int) + 1 ≤ 16 := by omega
  have hq1 : (((q + 1 : Nat) : Nat) : Int) - 1 = (q : Int) := by omega
  clear c1 hp hat HU hq h16 hcap hv
  generalize Cnd.hs v 2 = t2 at *
  generalize Cnd.hs v 1 = t1 at *
  generalize Cnd.hs v 0 = t0 at *
  go_enter Try.func54, Try.ntmps54
  go_wp2_with (first | (go_at_call 54; go_loud (refine (HUU.out _ ((ext_refl _).new _)).mono ?_; rintro e w2 ⟨rfl, x2⟩; have a0 := ext_cell x2 ((Blk.new _ _ _).cell 0); have X2 := hid (((ext_refl w).new _).then x2); clear x2)) | (go_at_call_of 24 (Value.int IntKind.i64 2); refine (H2.out _).mono ?_; rintro e w1 ⟨rfl, rfl⟩) | (go_at_call_of 24 (Value.int IntKind.i64 1); refine (H1.out _).mono ?_; rintro e w1 ⟨rfl, rfl⟩) | (go_at_call_of 24 (Value.int IntKind.i64 0); refine (H0.out _).mono ?_; rintro e w1 ⟨rfl, rfl⟩) | (go_at_call 83; refine (HMS.out _ _ _ _).mono ?_; rintro e w1 ⟨rfl, rfl⟩))
  go_returns
  exact ⟨rfl, X2.out⟩
end Go.Proofs.Ytpheegfanljeeaa
end
section
namespace Go.Proofs.Ytpheegfanljeeaa
open Go.RowKit Hy
set_option maxHeartbeats 6400000 in
set_option maxRecDepth 100000 in
theorem setOf_jn5 (c : Cnd) (r : List Cnd) (P A B B2 : Option Addr) (q ka n2 c2 pcap m cap cap2 x y : Nat) (w : World) (hp : Rd w P (cns (r ++ [c]))) (hq : r.length = q) (hop : c.1 = 5) (h16 : q + 1 ≤ 16) (hcap : q + 1 ≤ pcap) (hka : ka ≤ q) (hx : x < 8) (hy : y < 8)
    (hB2 : B2 = slF P ka pcap 5) (hn2 : n2 = q - ka) (hc2 : c2 = pcap - ka)
    (HB : ∀ wx, Ext w wx → Calls Try.prog 75 #[.slice P (q + 1) pcap, .int .i64 (q : Nat)] wx fun e w' => e = .returned (.int .i64 (ka : Nat)) ∧ wx = w')
    (HX : ∀ wx, Ext w wx → Calls Try.prog 54 #[.slice P ka pcap, .slice A m cap, .slice B m cap2] wx fun e w' => e = .returned (.int .i64 (x : Nat)) ∧ Ext wx w')
    (HY : ∀ wx, Ext w wx → Calls Try.prog 54 #[.slice B2 n2 c2, .slice A m cap, .slice B m cap2] wx fun e w' => e = .returned (.int .i64 (y : Nat)) ∧ Ext wx w') :
    Calls Try.prog 54 #[.slice P (q + 1) pcap, .slice A m cap, .slice B m cap2] w fun e w' => e = .returned (.int .i64 (Cnd.alls c.1 x y : Nat)) ∧ Ext w w' := by
  obtain ⟨b1, o1, e1, l1, c1⟩ := hp.cnds q (by rw [List.length_append, hq]; simp)
  have hS1 : ∀ w, (Instr.sliceAt 22 (.slice P (q + 1) pcap) none (some (.int .i64 (ka : Int))) none).run Try.prog w = .ok (.slice P ka pcap) w := fun w => sl_to Try.underlying22 infoCond P (q + 1) pcap .i64 ka (by omega) w
  have hS2 : ∀ w, (Instr.sliceAt 22 (.slice P (q + 1) pcap) (some (.int .i64 (ka : Int))) (some (.int .i64 (q : Int))) none).run Try.prog w = .ok (.slice B2 n2 c2) w := fun w => by rw [hB2, hn2, hc2]; exact sl_mid Try.underlying22 infoCond P (q + 1) pcap .i64 .i64 ka q (by omega) (by omega) w
  subst e1
  obtain ⟨d0, d1, d2, d3, d4⟩ := c1 q (by rw [List.length_append, hq]; simp)
  have hat : ∀ h, (r ++ [c])[q]'h = c := fun h => by rw [List.getElem_append_right (by omega)]; simp
  rw [hat] at d0 d1 d2 d3 d4
  obtain ⟨op, col, k, n, s⟩ := c
  simp only at d0 d1 d2 d3 d4 hop ⊢
  subst hop
  have HBB := hid HB
  have HXX := hid HX
  have HYY := hid HY
  have hqI : (q : Int) + 1 ≤ 16 := by omega
  have hq1 : (((q + 1 : Nat) : Nat) : Int) - 1 = (q : Int) := by omega
  have hwq : IntKind.i64.wrap ((q : Int) + 1 - 1) = (q : Int) := by rw [IntKind.wrap_i64]; omega
  have hwq0 : IntKind.i64.wrap (((q + 1 : Nat) : Int) - 1) = (q : Int) := by rw [IntKind.wrap_i64]; omega
  have hwq2 : IntKind.i64.wrap (q : Int) = (q : Int) := by rw [IntKind.wrap_i64]; omega
  have HX8 := hid hx
  have HY8 := hid hy
  clear c1 hp hat HB HX HY hq h16 hcap hx hy hB2 hn2 hc2 hka
  go_enter Try.func54, Try.ntmps54
  go_wp2_with (go_at_call 75; go_loud (refine (HBB.out _ ((ext_refl _).new _)).mono ?_; rintro e w2 ⟨rfl, rfl⟩))
  refine wp_gen (fun w' => Ext w w' ∧ Blk w' w.heap.size 39 #[.int .i64 5, .int .i64 col, .int .i64 k, .int .u64 (n : Int), .string s]) ⟨(ext_refl _).new _, Blk.new _ _ _⟩ ?_
  rintro wz ⟨B, B1⟩
  have HZ := hid B
  have HZ1 := hid B1
  clear d0 d1 d2 d3 d4 B B1
  refine wp_region_walk [(0, true), (1, true), (2, true), (3, true), (4, true), (6, true), (7, true), (8, true), (9, true), (10, true), (11, true), (12, true), (5, false), (13, false), (14, true), (15, true)] (by kernel_rfl) (by kernel_rfl) (fun _ _ _ _ _ h => h) (by kernel_rfl) (by rfl) ?_
  simp only [List.filterMap_cons, List.filterMap_nil, List.getElem?_toArray, List.getElem?_cons_zero, List.getElem?_cons_succ, Option.map_some]
  repeat (refine wpM_val (by rfl) ?_; intro K hK; go_big_quiet_op; go_big_quiet_on)
  have Y0 : Ext wz wz.drew := Ext.draw (ext_refl wz)
  refine wpM_do (by rfl) ?_
  intro K hK
  go_simp
  refine Calls.mono (HXX.out _ (HZ.out.then Y0)) ?_
  rintro e w2 ⟨rfl, hx⟩
  have Y1 := Y0.then hx
  refine hK _ _ Y1 ?_
  clear K hK hx
  refine wpM_do (by rfl) ?_
  intro K hK
  go_simp
  refine Calls.mono (HYY.out _ (HZ.out.then Y1)) ?_
  rintro e w3 ⟨rfl, hx⟩
  have Y2 := Y1.then hx
  refine hK _ _ Y2 ?_
  clear K hK hx
  repeat (refine wpM_val (by rfl) ?_; intro K hK; go_big_quiet_op; go_big_quiet_on)
  refine wpM_nil ?_
  have X3 := hid (HZ.out.then Y2)
  have B3 := HZ1.out.keep Y2
  have l3 := B3.lt
  have a0 := B3.cell 0
  clear B3 Y0 Y1 Y2 hS1 hS2 HXX HYY HBB hwq hwq0 hwq2 hq1
  have hA : Cnd.alls 5 x y = Cnd.alp 5 x y 9 := by unfold Cnd.alls; rfl
  have HA := hid hA
  clear hA
  go_wp2
  go_loop [13, 14, 15, 16] (fun x6 x7 _ _ => ∃ a v : Nat, a ≤ 3 ∧ x7 = .int .i64 a ∧ x6 = .int .i64 v ∧ Hid (v = Cnd.alp 5 x y (3 * a))) (fun _ x7 _ _ => 3 - (intOf x7).toNat)
  case atStart => exact ⟨0, 0, by omega, rfl, rfl, rfl⟩
  case round =>
    obtain ⟨a, v, ha, rfl, rfl, HV⟩ := hrel
    by_cases hlt : a < 3
    · have haI : (a : Int) ≤ 2 := by omega
      have H1 := hid (fun wx => hasMay_any x a HX8.out (by omega) wx)
      obtain ⟨qa, hqa⟩ : ∃ qa, qa = Cnd.hs x a := ⟨_, rfl⟩
      rw [← hqa] at H1
      have HQA := hid hqa
      clear hqa
      have HLA := hid hlt
      clear hlt
      go_wp2
      go_loop [13, 15, 16] (fun x6 x8 _ => ∃ b v : Nat, b ≤ 3 ∧ x8 = .int .i64 b ∧ x6 = .int .i64 v ∧ Hid (v = Cnd.alp 5 x y (3 * a + b))) (fun _ x8 _ => 3 - (intOf x8).toNat)
      case atStart => exact ⟨0, v, by omega, rfl, rfl, HV⟩
      case round =>
        obtain ⟨b, v, hb, rfl, rfl, HV⟩ := hrel
        by_cases hltb : b < 3
        · have hbI : (b : Int) ≤ 2 := by omega
          have H2 := hid (fun wx => hasMay_any y b HY8.out (by omega) wx)
          obtain ⟨qb, hqb⟩ : ∃ qb, qb = Cnd.hs y b := ⟨_, rfl⟩
          rw [← hqb] at H2
          have hst := Cnd.alp_at 5 x y a b hltb
          rw [← HQA.out, ← hqb, ← HV.out, Cnd.jn5] at hst
          have hv8 : v < 8 := by rw [HV.out]; exact Cnd.alp_lt _ _ _ _ (by have := HLA.out; omega)
          have hvI : (v : Int) < 8 := by omega
          have H3a := hid (fun wx => hasMay_any v a hv8 HLA.out wx)
          have H3b := hid (fun wx => hasMay_any v b hv8 (by omega) wx)
          have HNX := hid (fun z (h : z = Cnd.alp 5 x y (3 * a + b + 1)) => (show z = Cnd.alp 5 x y (3 * a + (b + 1)) from h))
          clear hqb hv8
          by_cases hc : b < a
          all_goals (
            first | rw [if_pos hc] at hst | rw [if_neg hc] at hst)
          · have hcI : (b : Int) < (a : Int) := by omega
            cases hqa2 : qa
            · subst hqa2
              have HV2 := hid (HNX.out v (by rw [hst]; rfl))
              clear hst HNX hc
              go_wp2_with (first | (go_at_call_of 24 (Value.int IntKind.i64 x); refine (H1.out _).mono ?_; rintro e w1 ⟨rfl, rfl⟩) | (go_at_call_of 24 (Value.int IntKind.i64 y); refine (H2.out _).mono ?_; rintro e w1 ⟨rfl, rfl⟩) | (go_at_call_of 24 (Value.int IntKind.i64 v); refine (H3b.out _).mono ?_; rintro e w1 ⟨rfl, rfl⟩))
              go_round
              case rel => exact ⟨b + 1, v, by omega, by go_num, rfl, HV2⟩
              case measure => simp [intOf]; omega
            · subst hqa2
              cases hqb2 : qb
              · subst hqb2
                have HV2 := hid (HNX.out v (by rw [hst]; rfl))
                clear hst HNX hc
                go_wp2_with (first | (go_at_call_of 24 (Value.int IntKind.i64 x); refine (H1.out _).mono ?_; rintro e w1 ⟨rfl, rfl⟩) | (go_at_call_of 24 (Value.int IntKind.i64 y); refine (H2.out _).mono ?_; rintro e w1 ⟨rfl, rfl⟩) | (go_at_call_of 24 (Value.int IntKind.i64 v); refine (H3b.out _).mono ?_; rintro e w1 ⟨rfl, rfl⟩))
                go_round
                case rel => exact ⟨b + 1, v, by omega, by go_num, rfl, HV2⟩
                case measure => simp [intOf]; omega
              · subst hqb2
                cases hqt : Cnd.hs v b
                · rw [hqt] at H3b
                  obtain ⟨C, hC⟩ : ∃ C, C = 2 ^ b := ⟨_, rfl⟩
                  have hC4 : C ≤ 4 := by
                    rw [hC]
                    rcases (by omega : b = 0 ∨ b = 1 ∨ b = 2) with h | h | h <;> rw [h] <;> decide
                  have hCI : (C : Int) ≤ 4 := by omega
                  have hsh : (2 : Int) ^ b = (C : Int) := by rw [hC]; exact (Int.natCast_pow 2 b).symm
                  have hsh2 : IntKind.i64.wrap ((2 : Int) ^ b) = (C : Int) := by rw [hsh, IntKind.wrap_i64]; omega
                  have HV2 := hid (HNX.out (v + C) (by rw [hst, hC, ← Cnd.sb_no hqt]; rfl))
                  clear hst HNX hc hqt hC hC4
                  go_wp2_with (first | (go_at_call_of 24 (Value.int IntKind.i64 x); refine (H1.out _).mono ?_; rintro e w1 ⟨rfl, rfl⟩) | (go_at_call_of 24 (Value.int IntKind.i64 y); refine (H2.out _).mono ?_; rintro e w1 ⟨rfl, rfl⟩) | (go_at_call_of 24 (Value.int IntKind.i64 v); refine (H3b.out _).mono ?_; rintro e w1 ⟨rfl, rfl⟩))
                  go_round
                  case rel => exact ⟨b + 1, v + C, by omega, by go_num, by go_num, HV2⟩
                  case measure => simp [intOf]; omega
                · rw [hqt] at H3b
                  have HV2 := hid (HNX.out v (by rw [hst]; simp only [Bool.and_self, if_true]; rw [Cnd.sb_yes hqt]))
                  clear hst HNX hc hqt
                  go_wp2_with (first | (go_at_call_of 24 (Value.int IntKind.i64 x); refine (H1.out _).mono ?_; rintro e w1 ⟨rfl, rfl⟩) | (go_at_call_of 24 (Value.int IntKind.i64 y); refine (H2.out _).mono ?_; rintro e w1 ⟨rfl, rfl⟩) | (go_at_call_of 24 (Value.int IntKind.i64 v); refine (H3b.out _).mono ?_; rintro e w1 ⟨rfl, rfl⟩))
                  go_round
                  case rel => exact ⟨b + 1, v, by omega, by go_num, rfl, HV2⟩
                  case measure => simp [intOf]; omega
          · have hcI : (a : Int) ≤ (b : Int) := by omega
            cases hqa2 : qa
            · subst hqa2
              have HV2 := hid (HNX.out v (by rw [hst]; rfl))
              clear hst HNX hc
              go_wp2_with (first | (go_at_call_of 24 (Value.int IntKind.i64 x); refine (H1.out _).mono ?_; rintro e w1 ⟨rfl, rfl⟩) | (go_at_call_of 24 (Value.int IntKind.i64 y); refine (H2.out _).mono ?_; rintro e w1 ⟨rfl, rfl⟩) | (go_at_call_of 24 (Value.int IntKind.i64 v); refine (H3a.out _).mono ?_; rintro e w1 ⟨rfl, rfl⟩))
              go_round
              case rel => exact ⟨b + 1, v, by omega, by go_num, rfl, HV2⟩
              case measure => simp [intOf]; omega
            · subst hqa2
              cases hqb2 : qb
              · subst hqb2
                have HV2 := hid (HNX.out v (by rw [hst]; rfl))
                clear hst HNX hc
                go_wp2_with (first | (go_at_call_of 24 (Value.int IntKind.i64 x); refine (H1.out _).mono ?_; rintro e w1 ⟨rfl, rfl⟩) | (go_at_call_of 24 (Value.int IntKind.i64 y); refine (H2.out _).mono ?_; rintro e w1 ⟨rfl, rfl⟩) | (go_at_call_of 24 (Value.int IntKind.i64 v); refine (H3a.out _).mono ?_; rintro e w1 ⟨rfl, rfl⟩))
                go_round
                case rel => exact ⟨b + 1, v, by omega, by go_num, rfl, HV2⟩
                case measure => simp [intOf]; omega
              · subst hqb2
                cases hqt : Cnd.hs v a
                · rw [hqt] at H3a
                  obtain ⟨C, hC⟩ : ∃ C, C = 2 ^ a := ⟨_, rfl⟩
                  have hC4 : C ≤ 4 := by
                    rw [hC]
                    rcases (by omega : a = 0 ∨ a = 1 ∨ a = 2) with h | h | h <;> rw [h] <;> decide
                  have hCI : (C : Int) ≤ 4 := by omega
                  have hsh : (2 : Int) ^ a = (C : Int) := by rw [hC]; exact (Int.natCast_pow 2 a).symm
                  have hsh2 : IntKind.i64.wrap ((2 : Int) ^ a) = (C : Int) := by rw [hsh, IntKind.wrap_i64]; omega
                  have HV2 := hid (HNX.out (v + C) (by rw [hst, hC, ← Cnd.sb_no hqt]; rfl))
                  clear hst HNX hc hqt hC hC4
                  go_wp2_with (first | (go_at_call_of 24 (Value.int IntKind.i64 x); refine (H1.out _).mono ?_; rintro e w1 ⟨rfl, rfl⟩) | (go_at_call_of 24 (Value.int IntKind.i64 y); refine (H2.out _).mono ?_; rintro e w1 ⟨rfl, rfl⟩) | (go_at_call_of 24 (Value.int IntKind.i64 v); refine (H3a.out _).mono ?_; rintro e w1 ⟨rfl, rfl⟩))
                  go_round
                  case rel => exact ⟨b + 1, v + C, by omega, by go_num, by go_num, HV2⟩
                  case measure => simp [intOf]; omega
                · rw [hqt] at H3a
                  have HV2 := hid (HNX.out v (by rw [hst]; simp only [Bool.and_self, if_true]; rw [Cnd.sb_yes hqt]))
                  clear hst HNX hc hqt
                  go_wp2_with (first | (go_at_call_of 24 (Value.int IntKind.i64 x); refine (H1.out _).mono ?_; rintro e w1 ⟨rfl, rfl⟩) | (go_at_call_of 24 (Value.int IntKind.i64 y); refine (H2.out _).mono ?_; rintro e w1 ⟨rfl, rfl⟩) | (go_at_call_of 24 (Value.int IntKind.i64 v); refine (H3a.out _).mono ?_; rintro e w1 ⟨rfl, rfl⟩))
                  go_round
                  case rel => exact ⟨b + 1, v, by omega, by go_num, rfl, HV2⟩
                  case measure => simp [intOf]; omega
        · obtain rfl : b = 3 := by omega
          clear hltb
          have HV3 := hid (show v = Cnd.alp 5 x y (3 * (a + 1)) by rw [HV.out, Nat.mul_add])
          go_wp2
          go_round
          case rel => exact ⟨a + 1, v, by have := HLA.out; omega, by go_num, rfl, HV3⟩
          case measure => simp [intOf]; have := HLA.out; omega
    · obtain rfl : a = 3 := by omega
      clear hlt
      go_wp2
      go_returns
      exact ⟨by rw [HA.out, HV.out]; rfl, X3.out⟩
set_option maxHeartbeats 6400000 in
set_option maxRecDepth 100000 in
theorem setOf_jn6 (c : Cnd) (r : List Cnd) (P A B B2 : Option Addr) (q ka n2 c2 pcap m cap cap2 x y : Nat) (w : World) (hp : Rd w P (cns (r ++ [c]))) (hq : r.length = q) (hop : c.1 = 6) (h16 : q + 1 ≤ 16) (hcap : q + 1 ≤ pcap) (hka : ka ≤ q) (hx : x < 8) (hy : y < 8)
    (hB2 : B2 = slF P ka pcap 5) (hn2 : n2 = q - ka) (hc2 : c2 = pcap - ka)
    (HB : ∀ wx, Ext w wx → Calls Try.prog 75 #[.slice P (q + 1) pcap, .int .i64 (q : Nat)] wx fun e w' => e = .returned (.int .i64 (ka : Nat)) ∧ wx = w')
    (HX : ∀ wx, Ext w wx → Calls Try.prog 54 #[.slice P ka pcap, .slice A m cap, .slice B m cap2] wx fun e w' => e = .returned (.int .i64 (x : Nat)) ∧ Ext wx w')
    (HY : ∀ wx, Ext w wx → Calls Try.prog 54 #[.slice B2 n2 c2, .slice A m cap, .slice B m cap2] wx fun e w' => e = .returned (.int .i64 (y : Nat)) ∧ Ext wx w') :
    Calls Try.prog 54 #[.slice P (q + 1) pcap, .slice A m cap, .slice B m cap2] w fun e w' => e = .returned (.int .i64 (Cnd.alls c.1 x y : Nat)) ∧ Ext w w' := by
  obtain ⟨b1, o1, e1, l1, c1⟩ := hp.cnds q (by rw [List.length_append, hq]; simp)
  have hS1 : ∀ w, (Instr.sliceAt 22 (.slice P (q + 1) pcap) none (some (.int .i64 (ka : Int))) none).run Try.prog w = .ok (.slice P ka pcap) w := fun w => sl_to Try.underlying22 infoCond P (q + 1) pcap .i64 ka (by omega) w
  have hS2 : ∀ w, (Instr.sliceAt 22 (.slice P (q + 1) pcap) (some (.int .i64 (ka : Int))) (some (.int .i64 (q : Int))) none).run Try.prog w = .ok (.slice B2 n2 c2) w := fun w => by rw [hB2, hn2, hc2]; exact sl_mid Try.underlying22 infoCond P (q + 1) pcap .i64 .i64 ka q (by omega) (by omega) w
  subst e1
  obtain ⟨d0, d1, d2, d3, d4⟩ := c1 q (by rw [List.length_append, hq]; simp)
  have hat : ∀ h, (r ++ [c])[q]'h = c := fun h => by rw [List.getElem_append_right (by omega)]; simp
  rw [hat] at d0 d1 d2 d3 d4
  obtain ⟨op, col, k, n, s⟩ := c
  simp only at d0 d1 d2 d3 d4 hop ⊢
  subst hop
  have HBB := hid HB
  have HXX := hid HX
  have HYY := hid HY
  have hqI : (q : Int) + 1 ≤ 16 := by omega
  have hq1 : (((q + 1 : Nat) : Nat) : Int) - 1 = (q : Int) := by omega
  have hwq : IntKind.i64.wrap ((q : Int) + 1 - 1) = (q : Int) := by rw [IntKind.wrap_i64]; omega
  have hwq0 : IntKind.i64.wrap (((q + 1 : Nat) : Int) - 1) = (q : Int) := by rw [IntKind.wrap_i64]; omega
  have hwq2 : IntKind.i64.wrap (q : Int) = (q : Int) := by rw [IntKind.wrap_i64]; omega
  have HX8 := hid hx
  have HY8 := hid hy
  clear c1 hp hat HB HX HY hq h16 hcap hx hy hB2 hn2 hc2 hka
  go_enter Try.func54, Try.ntmps54
  go_wp2_with (go_at_call 75; go_loud (refine (HBB.out _ ((ext_refl _).new _)).mono ?_; rintro e w2 ⟨rfl, rfl⟩))
  refine wp_gen (fun w' => Ext w w' ∧ Blk w' w.heap.size 39 #[.int .i64 6, .int .i64 col, .int .i64 k, .int .u64 (n : Int), .string s]) ⟨(ext_refl _).new _, Blk.new _ _ _⟩ ?_
  rintro wz ⟨B, B1⟩
  have HZ := hid B
  have HZ1 := hid B1
  clear d0 d1 d2 d3 d4 B B1
  refine wp_region_walk [(0, true), (1, true), (2, true), (3, true), (4, true), (6, true), (7, true), (8, true), (9, true), (10, true), (11, true), (12, true), (5, false), (13, false), (14, true), (15, true)] (by kernel_rfl) (by kernel_rfl) (fun _ _ _ _ _ h => h) (by kernel_rfl) (by rfl) ?_
  simp only [List.filterMap_cons, List.filterMap_nil, List.getElem?_toArray, List.getElem?_cons_zero, List.getElem?_cons_succ, Option.map_some]
  repeat (refine wpM_val (by rfl) ?_; intro K hK; go_big_quiet_op; go_big_quiet_on)
  have Y0 : Ext wz wz.drew := Ext.draw (ext_refl wz)
  refine wpM_do (by rfl) ?_
  intro K hK
  go_simp
  refine Calls.mono (HXX.out _ (HZ.out.then Y0)) ?_
  rintro e w2 ⟨rfl, hx⟩
  have Y1 := Y0.then hx
  refine hK _ _ Y1 ?_
  clear K hK hx
  refine wpM_do (by rfl) ?_
  intro K hK
  go_simp
  refine Calls.mono (HYY.out _ (HZ.out.then Y1)) ?_
  rintro e w3 ⟨rfl, hx⟩
  have Y2 := Y1.then hx
  refine hK _ _ Y2 ?_
  clear K hK hx
  repeat (refine wpM_val (by rfl) ?_; intro K hK; go_big_quiet_op; go_big_quiet_on)
  refine wpM_nil ?_
  have X3 := hid (HZ.out.then Y2)
  have B3 := HZ1.out.keep Y2
  have l3 := B3.lt
  have a0 := B3.cell 0
  clear B3 Y0 Y1 Y2 hS1 hS2 HXX HYY HBB hwq hwq0 hwq2 hq1
  have hA : Cnd.alls 6 x y = Cnd.alp 6 x y 9 := by unfold Cnd.alls; rfl
  have HA := hid hA
  clear hA
  go_wp2
  go_loop [13, 14, 15, 16] (fun x6 x7 _ _ => ∃ a v : Nat, a ≤ 3 ∧ x7 = .int .i64 a ∧ x6 = .int .i64 v ∧ Hid (v = Cnd.alp 6 x y (3 * a))) (fun _ x7 _ _ => 3 - (intOf x7).toNat)
  case atStart => exact ⟨0, 0, by omega, rfl, rfl, rfl⟩
  case round =>
    obtain ⟨a, v, ha, rfl, rfl, HV⟩ := hrel
    by_cases hlt : a < 3
    · have haI : (a : Int) ≤ 2 := by omega
      have H1 := hid (fun wx => hasMay_any x a HX8.out (by omega) wx)
      obtain ⟨qa, hqa⟩ : ∃ qa, qa = Cnd.hs x a := ⟨_, rfl⟩
      rw [← hqa] at H1
      have HQA := hid hqa
      clear hqa
      have HLA := hid hlt
      clear hlt
      go_wp2
      go_loop [13, 15, 16] (fun x6 x8 _ => ∃ b v : Nat, b ≤ 3 ∧ x8 = .int .i64 b ∧ x6 = .int .i64 v ∧ Hid (v = Cnd.alp 6 x y (3 * a + b))) (fun _ x8 _ => 3 - (intOf x8).toNat)
      case atStart => exact ⟨0, v, by omega, rfl, rfl, HV⟩
      case round =>
        obtain ⟨b, v, hb, rfl, rfl, HV⟩ := hrel
        by_cases hltb : b < 3
        · have hbI : (b : Int) ≤ 2 := by omega
          have H2 := hid (fun wx => hasMay_any y b HY8.out (by omega) wx)
          obtain ⟨qb, hqb⟩ : ∃ qb, qb = Cnd.hs y b := ⟨_, rfl⟩
          rw [← hqb] at H2
          have hst := Cnd.alp_at 6 x y a b hltb
          rw [← HQA.out, ← hqb, ← HV.out, Cnd.jn6] at hst
          have hv8 : v < 8 := by rw [HV.out]; exact Cnd.alp_lt _ _ _ _ (by have := HLA.out; omega)
          have hvI : (v : Int) < 8 := by omega
          have H3a := hid (fun wx => hasMay_any v a hv8 HLA.out wx)
          have H3b := hid (fun wx => hasMay_any v b hv8 (by omega) wx)
          have HNX := hid (fun z (h : z = Cnd.alp 6 x y (3 * a + b + 1)) => (show z = Cnd.alp 6 x y (3 * a + (b + 1)) from h))
          clear hqb hv8
          by_cases hc : a < b
          all_goals (
            first | rw [if_pos hc] at hst | rw [if_neg hc] at hst)
          · have hcI : (a : Int) < (b : Int) := by omega
            cases hqa2 : qa
            · subst hqa2
              have HV2 := hid (HNX.out v (by rw [hst]; rfl))
              clear hst HNX hc
              go_wp2_with (first | (go_at_call_of 24 (Value.int IntKind.i64 x); refine (H1.out _).mono ?_; rintro e w1 ⟨rfl, rfl⟩) | (go_at_call_of 24 (Value.int IntKind.i64 y); refine (H2.out _).mono ?_; rintro e w1 ⟨rfl, rfl⟩) | (go_at_call_of 24 (Value.int IntKind.i64 v); refine (H3b.out _).mono ?_; rintro e w1 ⟨rfl, rfl⟩))
              go_round
              case rel => exact ⟨b + 1, v, by omega, by go_num, rfl, HV2⟩
              case measure => simp [intOf]; omega
            · subst hqa2
              cases hqb2 : qb
              · subst hqb2
                have HV2 := hid (HNX.out v (by rw [hst]; rfl))
                clear hst HNX hc
                go_wp2_with (first | (go_at_call_of 24 (Value.int IntKind.i64 x); refine (H1.out _).mono ?_; rintro e w1 ⟨rfl, rfl⟩) | (go_at_call_of 24 (Value.int IntKind.i64 y); refine (H2.out _).mono ?_; rintro e w1 ⟨rfl, rfl⟩) | (go_at_call_of 24 (Value.int IntKind.i64 v); refine (H3b.out _).mono ?_; rintro e w1 ⟨rfl, rfl⟩))
                go_round
                case rel => exact ⟨b + 1, v, by omega, by go_num, rfl, HV2⟩
                case measure => simp [intOf]; omega
              · subst hqb2
                cases hqt : Cnd.hs v b
                · rw [hqt] at H3b
                  obtain ⟨C, hC⟩ : ∃ C, C = 2 ^ b := ⟨_, rfl⟩
                  have hC4 : C ≤ 4 := by
                    rw [hC]
                    rcases (by omega : b = 0 ∨ b = 1 ∨ b = 2) with h | h | h <;> rw [h] <;> decide
                  have hCI : (C : Int) ≤ 4 := by omega
                  have hsh : (2 : Int) ^ b = (C : Int) := by rw [hC]; exact (Int.natCast_pow 2 b).symm
                  have hsh2 : IntKind.i64.wrap ((2 : Int) ^ b) = (C : Int) := by rw [hsh, IntKind.wrap_i64]; omega
                  have HV2 := hid (HNX.out (v + C) (by rw [hst, hC, ← Cnd.sb_no hqt]; rfl))
                  clear hst HNX hc hqt hC hC4
                  go_wp2_with (first | (go_at_call_of 24 (Value.int IntKind.i64 x); refine (H1.out _).mono ?_; rintro e w1 ⟨rfl, rfl⟩) | (go_at_call_of 24 (Value.int IntKind.i64 y); refine (H2.out _).mono ?_; rintro e w1 ⟨rfl, rfl⟩) | (go_at_call_of 24 (Value.int IntKind.i64 v); refine (H3b.out _).mono ?_; rintro e w1 ⟨rfl, rfl⟩))
                  go_round
                  case rel => exact ⟨b + 1, v + C, by omega, by go_num, by go_num, HV2⟩
                  case measure => simp [intOf]; omega
                · rw [hqt] at H3b
                  have HV2 := hid (HNX.out v (by rw [hst]; simp only [Bool.and_self, if_true]; rw [Cnd.sb_yes hqt]))
                  clear hst HNX hc hqt
                  go_wp2_with (first | (go_at_call_of 24 (Value.int IntKind.i64 x); refine (H1.out _).mono ?_; rintro e w1 ⟨rfl, rfl⟩) | (go_at_call_of 24 (Value.int IntKind.i64 y); refine (H2.out _).mono ?_; rintro e w1 ⟨rfl, rfl⟩) | (go_at_call_of 24 (Value.int IntKind.i64 v); refine (H3b.out _).mono ?_; rintro e w1 ⟨rfl, rfl⟩))
                  go_round
                  case rel => exact ⟨b + 1, v, by omega, by go_num, rfl, HV2⟩
                  case measure => simp [intOf]; omega
          · have hcI : (b : Int) ≤ (a : Int) := by omega
            cases hqa2 : qa
            · subst hqa2
              have HV2 := hid (HNX.out v (by rw [hst]; rfl))
              clear hst HNX hc
              go_wp2_with (first | (go_at_call_of 24 (Value.int IntKind.i64 x); refine (H1.out _).mono ?_; rintro e w1 ⟨rfl, rfl⟩) | (go_at_call_of 24 (Value.int IntKind.i64 y); refine (H2.out _).mono ?_; rintro e w1 ⟨rfl, rfl⟩) | (go_at_call_of 24 (Value.int IntKind.i64 v); refine (H3a.out _).mono ?_; rintro e w1 ⟨rfl, rfl⟩))
              go_round
              case rel => exact ⟨b + 1, v, by omega, by go_num, rfl, HV2⟩
              case measure => simp [intOf]; omega
            · subst hqa2
              cases hqb2 : qb
              · subst hqb2
                have HV2 := hid (HNX.out v (by rw [hst]; rfl))
                clear hst HNX hc
                go_wp2_with (first | (go_at_call_of 24 (Value.int IntKind.i64 x); refine (H1.out _).mono ?_; rintro e w1 ⟨rfl, rfl⟩) | (go_at_call_of 24 (Value.int IntKind.i64 y); refine (H2.out _).mono ?_; rintro e w1 ⟨rfl, rfl⟩) | (go_at_call_of 24 (Value.int IntKind.i64 v); refine (H3a.out _).mono ?_; rintro e w1 ⟨rfl, rfl⟩))
                go_round
                case rel => exact ⟨b + 1, v, by omega, by go_num, rfl, HV2⟩
                case measure => simp [intOf]; omega
              · subst hqb2
                cases hqt : Cnd.hs v a
                · rw [hqt] at H3a
                  obtain ⟨C, hC⟩ : ∃ C, C = 2 ^ a := ⟨_, rfl⟩
                  have hC4 : C ≤ 4 := by
                    rw [hC]
                    rcases (by omega : a = 0 ∨ a = 1 ∨ a = 2) with h | h | h <;> rw [h] <;> decide
                  have hCI : (C : Int) ≤ 4 := by omega
                  have hsh : (2 : Int) ^ a = (C : Int) := by rw [hC]; exact (Int.natCast_pow 2 a).symm
                  have hsh2 : IntKind.i64.wrap ((2 : Int) ^ a) = (C : Int) := by rw [hsh, IntKind.wrap_i64]; omega
                  have HV2 := hid (HNX.out (v + C) (by rw [hst, hC, ← Cnd.sb_no hqt]; rfl))
                  clear hst HNX hc hqt hC hC4
                  go_wp2_with (first | (go_at_call_of 24 (Value.int IntKind.i64 x); refine (H1.out _).mono ?_; rintro e w1 ⟨rfl, rfl⟩) | (go_at_call_of 24 (Value.int IntKind.i64 y); refine (H2.out _).mono ?_; rintro e w1 ⟨rfl, rfl⟩) | (go_at_call_of 24 (Value.int IntKind.i64 v); refine (H3a.out _).mono ?_; rintro e w1 ⟨rfl, rfl⟩))
                  go_round
                  case rel => exact ⟨b + 1, v + C, by omega, by go_num, by go_num, HV2⟩
                  case measure => simp [intOf]; omega
                · rw [hqt] at H3a
                  have HV2 := hid (HNX.out v (by rw [hst]; simp only [Bool.and_self, if_true]; rw [Cnd.sb_yes hqt]))
                  clear hst HNX hc hqt
                  go_wp2_with (first | (go_at_call_of 24 (Value.int IntKind.i64 x); refine (H1.out _).mono ?_; rintro e w1 ⟨rfl, rfl⟩) | (go_at_call_of 24 (Value.int IntKind.i64 y); refine (H2.out _).mono ?_; rintro e w1 ⟨rfl, rfl⟩) | (go_at_call_of 24 (Value.int IntKind.i64 v); refine (H3a.out _).mono ?_; rintro e w1 ⟨rfl, rfl⟩))
                  go_round
                  case rel => exact ⟨b + 1, v, by omega, by go_num, rfl, HV2⟩
                  case measure => simp [intOf]; omega
        · obtain rfl : b = 3 := by omega
          clear hltb
          have HV3 := hid (show v = Cnd.alp 6 x y (3 * (a + 1)) by rw [HV.out, Nat.mul_add])
          go_wp2
          go_round
          case rel => exact ⟨a + 1, v, by have := HLA.out; omega, by go_num, rfl, HV3⟩
          case measure => simp [intOf]; have := HLA.out; omega
    · obtain rfl : a = 3 := by omega
      clear hlt
      go_wp2
      go_returns
      exact ⟨by rw [HA.out, HV.out]; rfl, X3.out⟩
end Go.Proofs.Ytpheegfanljeeaa
end
section
namespace Hy.Cnd
/-- what is wrong with what is known of columns: one by one, each by its column's kind -/
def schk : List Int → List Sta → Nat
  | k :: ks, c :: r => if Cel.sck k c ≠ 0 then Cel.sck k c else schk ks r
  | _, _ => 0
theorem schk_bad {ks : List Int} {row : List Sta} {i : Nat} (hk : i < ks.length) (hr : i < row.length) (h : Cel.sck ks[i] row[i] ≠ 0) : schk (ks.drop i) (row.drop i) = Cel.sck ks[i] row[i] := by
  rw [List.drop_eq_getElem_cons hk, List.drop_eq_getElem_cons hr]; simp only [schk]; rw [if_pos h]
theorem schk_next {ks : List Int} {row : List Sta} {i : Nat} (hk : i < ks.length) (hr : i < row.length) (h : Cel.sck ks[i] row[i] = 0) : schk (ks.drop i) (row.drop i) = schk (ks.drop (i + 1)) (row.drop (i + 1)) := by
  rw [List.drop_eq_getElem_cons hk, List.drop_eq_getElem_cons hr]; simp only [schk]; rw [if_neg (by omega)]
theorem schk_end (ks : List Int) : schk ks [] = 0 := by cases ks <;> rfl
theorem schk_le (ks : List Int) (row : List Sta) : schk ks row ≤ 7 := by
  induction ks generalizing row with
  | nil => exact Nat.zero_le _
  | cons k ks ih =>
    cases row with
    | nil => exact Nat.zero_le _
    | cons c r => simp only [schk]; split; exact Cel.sck_le _ _; exact ih _
/-- what may be, of what is known -/
@[irreducible] def prn (ks : List Int) (p : List Cnd) (S : List Sta) (Fs : List Bloom.F) : Nat × Nat :=
  if chk ks p ≠ 0 then (0, chk ks p) else if S.length ≠ ks.length ∨ Fs.length ≠ ks.length then (0, 1) else if schk ks S ≠ 0 then (0, schk ks S) else (val (setf S Fs) alls p, 0)
theorem prn_bad {ks : List Int} {p : List Cnd} {S : List Sta} {Fs : List Bloom.F} (h : chk ks p ≠ 0) : prn ks p S Fs = (0, chk ks p) := by unfold prn; rw [if_pos h]
theorem prn_len {ks : List Int} {p : List Cnd} {S : List Sta} {Fs : List Bloom.F} (h : chk ks p = 0) (h2 : S.length ≠ ks.length ∨ Fs.length ≠ ks.length) : prn ks p S Fs = (0, 1) := by unfold prn; rw [if_neg (by omega), if_pos h2]
theorem prn_row {ks : List Int} {p : List Cnd} {S : List Sta} {Fs : List Bloom.F} (h : chk ks p = 0) (h2 : S.length = ks.length) (h2' : Fs.length = ks.length) (h3 : schk ks S ≠ 0) : prn ks p S Fs = (0, schk ks S) := by unfold prn; rw [if_neg (by omega), if_neg (by omega), if_pos h3]
theorem prn_ok {ks : List Int} {p : List Cnd} {S : List Sta} {Fs : List Bloom.F} (h : chk ks p = 0) (h2 : S.length = ks.length) (h2' : Fs.length = ks.length) (h3 : schk ks S = 0) : prn ks p S Fs = (val (setf S Fs) alls p, 0) := by unfold prn; rw [if_neg (by omega), if_neg (by omega), if_neg (by omega)]
end Hy.Cnd
namespace Go.Proofs.Ytpheegfanljeeaa
open Go.RowKit Hy
theorem setOf_tree (ks : List Int) (S : List Sta) (Fs : List Bloom.F) (A B : Option Addr) (m cap cap2 : Nat) (hm : S.length = m) (hm2 : Fs.length = m) (hk : ks.length = m) (hml : m ≤ 140737488355328) (hok : ∀ f ∈ Fs, f.ok)
    (hss : ∀ s ∈ S, s.2.2.1.2.2.size ≤ 140737488355328 ∧ s.2.2.2.2.2.size ≤ 140737488355328) (t : Cnd.Tm) :
    ∀ (P : Option Addr) (n pcap : Nat) (w : World), t.ok → t.code.length = n → n ≤ 16 → n ≤ pcap → Rd w P (cns t.code) → Rd w A (sts S) → Rd w B (frs Fs) → (∀ c ∈ t.code, Cnd.al ks c = 0) → (∀ c ∈ t.code, c.2.2.2.1 < 18446744073709551616) →
    Calls Try.prog 54 #[.slice P n pcap, .slice A m cap, .slice B m cap2] w fun e w' => e = .returned (.int .i64 (t.ev (Cnd.setf S Fs) Cnd.alls : Nat)) ∧ Ext w w' := by
  have hev : ∀ u : Cnd.Tm, u.ev (Cnd.setf S Fs) Cnd.alls < 8 := fun u => Nat.lt_succ_of_le (Cnd.ev_le (B := 7) (Cnd.setf_le S Fs) (fun op x y _ _ => Nat.lt_succ_iff.1 (Cnd.alls_lt op x y)) u)
  induction t with
  | lf c =>
    intro P n pcap w hok1 hn h16 hcap hp hr hrf hal hcn
    obtain ⟨h0, h1, h2, h3, h4, _⟩ := Cnd.leaf_ok (hal c (by simp [Cnd.Tm.code])) hok1
    subst hn
    exact setOf_leaf c S Fs P A B pcap m cap cap2 w hp ⟨h2, h3⟩ h0 (by omega) hm hm2 hml hr hrf hok (hcn c (by simp [Cnd.Tm.code])) h4 hss
  | nt c u ih =>
    intro P n pcap w hok1 hn h16 hcap hp hr hrf hal hcn
    have hq : n = u.code.length + 1 := by rw [← hn]; simp [Cnd.Tm.code]
    subst hq
    refine setOf_nt c u.code P A B u.code.length pcap m cap cap2 _ w hp rfl (Cnd.sz1 hok1.1) h16 hcap (hev u) fun wx hx => ?_
    exact ih P u.code.length pcap wx hok1.2 rfl (by omega) (by omega) (by
      have := hp.keep hx
      simp only [Cnd.Tm.code, cns_app] at this
      exact this.pre) (hr.keep hx) (hrf.keep hx) (fun d hd => hal d (by simp [Cnd.Tm.code, hd])) (fun d hd => hcn d (by simp [Cnd.Tm.code, hd]))
  | jn c a b iha ihb =>
    intro P n pcap w hok1 hn h16 hcap hp hr hrf hal hcn
    have hq : n = (a.code ++ b.code).length + 1 := by rw [← hn]; simp [Cnd.Tm.code]; omega
    have hlen : (a.code ++ b.code).length = a.code.length + b.code.length := List.length_append
    have hcode : (Cnd.Tm.jn c a b).code = (a.code ++ b.code) ++ [c] := by simp [Cnd.Tm.code]
    have hal2 : ∀ d ∈ (a.code ++ b.code) ++ [c], Cnd.al ks d = 0 := by rw [← hcode]; exact hal
    have hcn2 : ∀ d ∈ (a.code ++ b.code) ++ [c], d.2.2.2.1 < 18446744073709551616 := by rw [← hcode]; exact hcn
    rw [hcode] at hp
    subst hq
    have HB : ∀ wx, Ext w wx → Calls Try.prog 75 #[.slice P ((a.code ++ b.code).length + 1) pcap, .int .i64 ((a.code ++ b.code).length : Nat)] wx fun e w' => e = .returned (.int .i64 (a.code.length : Nat)) ∧ wx = w' := fun wx hx => by
      have := condBegin_any b ((a.code ++ b.code) ++ [c]) P ((a.code ++ b.code).length + 1) pcap a.code [c] wx hok1.2.2 (by simp) (fun d hd => Cnd.al_rng (hal2 d hd)) (by simp; omega) h16 (hp.keep hx)
      rw [hlen]
      rw [hlen] at this
      exact this
    have HX : ∀ wx, Ext w wx → Calls Try.prog 54 #[.slice P a.code.length pcap, .slice A m cap, .slice B m cap2] wx fun e w' => e = .returned (.int .i64 (a.ev (Cnd.setf S Fs) Cnd.alls : Nat)) ∧ Ext wx w' := fun wx hx =>
      iha P a.code.length pcap wx hok1.2.1 rfl (by omega) (by omega) (by
        have := hp.keep hx
        rw [List.append_assoc, cns_app] at this
        exact this.pre) (hr.keep hx) (hrf.keep hx) (fun d hd => hal2 d (by simp [hd])) (fun d hd => hcn2 d (by simp [hd]))
    have HY : ∀ wx, Ext w wx → Calls Try.prog 54 #[.slice (slF P a.code.length pcap 5) b.code.length (pcap - a.code.length), .slice A m cap, .slice B m cap2] wx fun e w' => e = .returned (.int .i64 (b.ev (Cnd.setf S Fs) Cnd.alls : Nat)) ∧ Ext wx w' := fun wx hx => by
      refine ihb (slF P a.code.length pcap 5) b.code.length (pcap - a.code.length) wx hok1.2.2 rfl (by omega) (by omega) ?_ (hr.keep hx) (hrf.keep hx) (fun d hd => hal2 d (by simp [hd])) (fun d hd => hcn2 d (by simp [hd]))
      have h1 := Rd.from (f := cnd5) (m := 5) (fun _ => rfl) (hp.keep hx) a.code.length pcap (by simp; omega)
      rw [List.append_assoc, List.drop_left] at h1
      have h2 : Rd wx (slF P a.code.length pcap 5) (cns (b.code ++ [c])) := h1
      rw [cns_app] at h2
      exact h2.pre
    rcases Cnd.sz2 hok1.1 with h5 | h6
    · exact setOf_jn5 c (a.code ++ b.code) P A B (slF P a.code.length pcap 5) (a.code ++ b.code).length a.code.length b.code.length (pcap - a.code.length) pcap m cap cap2 _ _ w hp rfl h5 h16 hcap (by omega) (hev a) (hev b) rfl (by omega) rfl HB HX HY
    · exact setOf_jn6 c (a.code ++ b.code) P A B (slF P a.code.length pcap 5) (a.code ++ b.code).length a.code.length b.code.length (pcap - a.code.length) pcap m cap cap2 _ _ w hp rfl h6 h16 hcap (by omega) (hev a) (hev b) rfl (by omega) rfl HB HX HY
theorem setOf_any (ks : List Int) (p : List Cnd) (S : List Sta) (Fs : List Bloom.F) (P A B : Option Addr) (n pcap m cap cap2 : Nat) (w : World) (hr : Cnd.chk ks p = 0) (hn : p.length = n) (hcap : n ≤ pcap) (hp : Rd w P (cns p)) (hpn : ∀ c ∈ p, c.2.2.2.1 < 18446744073709551616) (hm : S.length = m) (hm2 : Fs.length = m) (hk : ks.length = m) (hml : m ≤ 140737488355328) (hrs : Rd w A (sts S)) (hrf : Rd w B (frs Fs)) (hok : ∀ f ∈ Fs, f.ok)
    (hss : ∀ s ∈ S, s.2.2.1.2.2.size ≤ 140737488355328 ∧ s.2.2.2.2.2.size ≤ 140737488355328) :
    Calls Try.prog 54 #[.slice P n pcap, .slice A m cap, .slice B m cap2] w fun e w' => e = .returned (.int .i64 (Cnd.val (Cnd.setf S Fs) Cnd.alls p : Nat)) ∧ Ext w w' := by
  have hal := Cnd.chk_al hr
  obtain ⟨t, ht, rfl, h16⟩ := Cnd.right_tree hr
  rw [Cnd.val_code _ _ t ht]
  exact setOf_tree ks S Fs A B m cap cap2 hm hm2 hk hml hok hss t P n pcap w ht hn (by omega) hcap hp hrs hrf hal hpn
set_option maxHeartbeats 3200000 in
set_option maxRecDepth 100000 in
theorem prune_any (ks : List Int) (p : List Cnd) (row : List Sta) (Fs : List Bloom.F) (P K R B : Option Addr) (n pcap m kcap r rcap q qcap : Nat) (w : World) (hn : p.length = n) (hp : Rd w P (cns p)) (hpn : ∀ c ∈ p, c.2.2.2.1 < 18446744073709551616) (hnl : n ≤ 140737488355328) (hm : ks.length = m) (hk : Rd w K (i64s ks)) (hml : m ≤ 140737488355328)
    (hrl : row.length = r) (hrr : Rd w R (sts row)) (hrll : r ≤ 140737488355328) (hql : Fs.length = q) (hrf : Rd w B (frs Fs)) (hqll : q ≤ 140737488355328) (hok : ∀ f ∈ Fs, f.ok) :
    Calls Try.prog 19 #[.slice P n pcap, .slice K m kcap, .slice R r rcap, .slice B q qcap] w fun e w' => e = .returned (.tuple #[.int .i64 ((Cnd.prn ks p row Fs).1 : Nat), .int .i64 ((Cnd.prn ks p row Fs).2 : Nat)]) ∧ Ext w w' := by
  have HCK := hid (pCheck_any ks p P K n pcap m kcap w hn hp hnl hm hk hml)
  have hc7 := Cnd.chk_le ks p
  have hmI : (m : Int) ≤ 140737488355328 := by omega
  have hrI : (r : Int) ≤ 140737488355328 := by omega
  have hqI : (q : Int) ≤ 140737488355328 := by omega
  by_cases h0 : Cnd.chk ks p = 0
  · rw [h0] at HCK
    by_cases h1 : r = m
    · subst h1
      by_cases h2 : q = r
      · subst h2
        have HKL := hid hm
        have HRL := hid hrl
        have HKR := hid hk
        have HRR := hid hrr
        have HV := hid (fun wx (hx : Ext w wx) => rawPrune_any ks p row Fs P R B n pcap q rcap qcap wx h0 hn (hp.keep hx) hpn hrl hql hm (hrr.keep hx) (hrf.keep hx) hok)
        obtain ⟨V, hV⟩ : ∃ V, V = Cnd.val (Cnd.setf row Fs) Cnd.alls p := ⟨_, rfl⟩
        rw [← hV] at HV
        have HRES := hid (show Cnd.prn ks p row Fs = if Cnd.schk (ks.drop 0) (row.drop 0) ≠ 0 then (0, Cnd.schk (ks.drop 0) (row.drop 0)) else (V, 0) by
          by_cases h3 : Cnd.schk ks row = 0
          · rw [Cnd.prn_ok h0 (by omega) (by omega) h3, List.drop_zero, List.drop_zero, if_neg (by omega), hV]
          · rw [Cnd.prn_row h0 (by omega) (by omega) h3, List.drop_zero, List.drop_zero, if_pos h3])
        obtain ⟨Z, hZ⟩ : ∃ Z, Z = Cnd.prn ks p row Fs := ⟨_, rfl⟩
        rw [← hZ] at HRES ⊢
        clear hn hp hnl hm hk hml hrl hrr hrll hV hZ hc7 h0 hql hrf hqll hok hpn
        go_enter Try.func19, Try.ntmps19
        go_wp2_with (first | (go_at_call 17; go_loud (refine HCK.out.mono ?_; rintro e w1 ⟨rfl, x1⟩; have X1 := hid x1; clear x1)))
        go_loopw [12, 34] (fun _ c wr => ∃ k : Nat, k ≤ q ∧ c = .int .i64 k ∧ Hid (Z = if Cnd.schk (ks.drop k) (row.drop k) ≠ 0 then (0, Cnd.schk (ks.drop k) (row.drop k)) else (V, 0)) ∧ Ext w wr) (fun _ c _ => q - (intOf c).toNat)
        case atStart => exact ⟨0, Nat.zero_le _, rfl, HRES, X1.out⟩
        case round =>
          obtain ⟨k, hk, rfl, HI, X⟩ := hrel
          by_cases hlt : k < q
          · have hkr : k < row.length := by rw [HRL.out]; exact hlt
            have hkk : k < ks.length := by rw [HKL.out]; exact hlt
            obtain ⟨b1, o1, e1, l1, c1⟩ := HKR.out.ints k hkk
            subst e1
            have d0 := (X.cell (p := ⟨b1, o1 + k, none⟩) l1).trans (c1 k hkk)
            obtain ⟨b2, o2, e2, l2, c2⟩ := HRR.out.stas k hkr
            subst e2
            obtain ⟨g0, g1, g2, g3, g4, g5, g6, g7⟩ := c2 k hkr
            have r0 := (X.cell (p := ⟨b2, o2 + k * 8, none⟩) l2).trans g0
            have r1 := (X.cell (p := ⟨b2, o2 + k * 8 + 1, none⟩) l2).trans g1
            have r2 := (X.cell (p := ⟨b2, o2 + k * 8 + 2, none⟩) l2).trans g2
            have r3 := (X.cell (p := ⟨b2, o2 + k * 8 + 3, none⟩) l2).trans g3
            have r4 := (X.cell (p := ⟨b2, o2 + k * 8 + 4, none⟩) l2).trans g4
            have r5 := (X.cell (p := ⟨b2, o2 + k * 8 + 5, none⟩) l2).trans g5
            have r6 := (X.cell (p := ⟨b2, o2 + k * 8 + 6, none⟩) l2).trans g6
            have r7 := (X.cell (p := ⟨b2, o2 + k * 8 + 7, none⟩) l2).trans g7
            have HBA := hid (fun h => Cnd.schk_bad (ks := ks) (row := row) hkk hkr h)
            have HBN := hid (fun h => Cnd.schk_next (ks := ks) (row := row) hkk hkr h)
            clear c1 c2 g0 g1 g2 g3 g4 g5 g6 g7
            generalize ks[k] = kd at *
            generalize row[k] = x at *
            clear hkr hkk
            have HCC := hid (fun wx => statsCheck_any kd x wx)
            obtain ⟨E, hE⟩ : ∃ E, E = Cel.sck kd x := ⟨_, rfl⟩
            have hE7 := Cel.sck_le kd x
            rw [← hE] at HCC HBA HBN hE7
            clear hE
            obtain ⟨rows, nulls, ⟨lk, ln, ls⟩, mk, mn, mss⟩ := x
            simp only at r0 r1 r2 r3 r4 r5 r6 r7
            have hkI : (k : Int) < (q : Int) := by omega
            go_wp2
            refine wp_gen (fun w' => Ext wr w' ∧ Blk w' wr.heap.size 45 #[.int .i64 rows, .int .i64 nulls, .int .i64 lk, .int .u64 (ln : Int), .string ls, .int .i64 mk, .int .u64 (mn : Int), .string mss]) ⟨(ext_refl _).new _, Blk.new _ _ _⟩ ?_
            rintro wz ⟨B, B1⟩
            have a0 := cell_regrown (B1.cell 0)
            have a1 := cell_regrown (B1.cell 1)
            have a2 := cell_regrown (B1.cell 2)
            have a3 := cell_regrown (B1.cell 3)
            have a4 := cell_regrown (B1.cell 4)
            have a5 := cell_regrown (B1.cell 5)
            have a6 := cell_regrown (B1.cell 6)
            have a7 := cell_regrown (B1.cell 7)
            have d0r := cell_regrown (ext_cell B d0)
            have HB := hid B
            clear B B1 d0 r0 r1 r2 r3 r4 r5 r6 r7
            refine wp_region_walk [(0, true), (1, true), (2, true), (3, true), (4, true), (5, false), (6, true)] (by kernel_rfl) (by kernel_rfl) (fun _ _ _ _ _ h => h) (by kernel_rfl) (by rfl) ?_
            simp only [List.filterMap_cons, List.filterMap_nil, List.getElem?_toArray, List.getElem?_cons_zero, List.getElem?_cons_succ, Option.map_some]
            repeat (refine wpM_val (by rfl) ?_; intro K hK; go_big_quiet_op; go_big_quiet_on)
            have Y0 : Ext wz wz.drew := Ext.draw (ext_refl wz)
            refine wpM_do (by rfl) ?_
            intro K hK
            go_simp
            refine Calls.mono (HCC.out _) ?_
            rintro e w3 ⟨rfl, hx⟩
            have Y2 := Y0.then hx
            refine hK _ _ Y2 ?_
            clear K hK hx
            repeat (refine wpM_val (by rfl) ?_; intro K hK; go_big_quiet_op; go_big_quiet_on)
            refine wpM_nil ?_
            have X3 := hid ((X.then HB.out).then Y2)
            clear Y0 Y2 a0 a1 a2 a3 a4 a5 a6 a7 d0r
            by_cases hE0 : E = 0
            · have HI2 := hid (show Z = if Cnd.schk (ks.drop (k + 1)) (row.drop (k + 1)) ≠ 0 then (0, Cnd.schk (ks.drop (k + 1)) (row.drop (k + 1))) else (V, 0) by rw [HI.out, HBN.out hE0])
              subst hE0
              clear HBA HBN hE7 HI
              go_wp2
              go_roundw
              case rel => exact ⟨k + 1, by omega, by go_num, HI2, X3.out⟩
              case measure => simp [intOf]; omega
            · have HE := hid (show Z = (0, E) by rw [HI.out, HBA.out hE0, if_pos hE0])
              have e1 : ((E : Int) != 0) = true := by simp; omega
              clear HBA HBN hE7 HI hE0
              go_wp2
              go_returns
              exact ⟨by rw [HE.out]; rfl, X3.out⟩
          · obtain rfl : k = q := by omega
            have HE := hid (show Z = (V, 0) by
              rw [HI.out, show row.drop k = [] from List.drop_of_length_le (by rw [HRL.out]; exact Nat.le_refl _), Cnd.schk_end]; rfl)
            clear HI hlt
            go_wp2_with (go_at_call 52; go_loud (refine (HV.out _ X).mono ?_; rintro e w2 ⟨rfl, x2⟩; have X2 := hid x2; clear x2))
            go_returns
            exact ⟨by rw [HE.out]; rfl, X.then X2.out⟩
      · have HE := hid (Cnd.prn_len (S := row) (Fs := Fs) h0 (.inr (by omega)))
        have h1I : ((q : Int) != (r : Int)) = true := by simp; omega
        clear hn hp hnl hm hk hml hrl hrr hrll hc7 h0 hql hrf hqll hok hpn h2
        go_enter Try.func19, Try.ntmps19
        go_wp2_with (first | (go_at_call 17; go_loud (refine HCK.out.mono ?_; rintro e w1 ⟨rfl, x1⟩; have X1 := hid x1; clear x1)))
        go_returns
        exact ⟨by rw [HE.out]; rfl, X1.out⟩
    · have HE := hid (Cnd.prn_len (S := row) (Fs := Fs) h0 (.inl (by omega)))
      have h1I : ((r : Int) != (m : Int)) = true := by simp; omega
      clear hn hp hnl hm hk hml hrl hrr hrll hc7 h0 hql hrf hqll hok hpn h1
      go_enter Try.func19, Try.ntmps19
      go_wp2_with (first | (go_at_call 17; go_loud (refine HCK.out.mono ?_; rintro e w1 ⟨rfl, x1⟩; have X1 := hid x1; clear x1)))
      go_returns
      exact ⟨by rw [HE.out]; rfl, X1.out⟩
  · have HE := hid (Cnd.prn_bad (S := row) (Fs := Fs) h0)
    obtain ⟨E, hE⟩ : ∃ E, E = Cnd.chk ks p := ⟨_, rfl⟩
    rw [← hE] at HCK HE h0 hc7
    have e1 : ((E : Int) != 0) = true := by simp; omega
    clear hn hp hnl hm hk hml hrl hrr hrll hc7 h0 hE hql hrf hqll hok hpn
    go_enter Try.func19, Try.ntmps19
    go_wp2_with (first | (go_at_call 17; go_loud (refine HCK.out.mono ?_; rintro e w1 ⟨rfl, x1⟩; have X1 := hid x1; clear x1)))
    go_returns
    exact ⟨by rw [HE.out]; rfl, X1.out⟩
set_option maxHeartbeats 3200000 in
set_option maxRecDepth 100000 in
theorem pruneOf_any (ks : List Int) (p : List Cnd) (row : List Sta) (Fs : List Bloom.F) (P K R B : Option Addr) (n pcap m kcap r rcap q qcap : Nat) (w : World) (hn : p.length = n) (hp : Rd w P (cns p)) (hpn : ∀ c ∈ p, c.2.2.2.1 < 18446744073709551616) (hnl : n ≤ 140737488355328) (hnc : n ≤ pcap) (hm : ks.length = m) (hk : Rd w K (i64s ks)) (hml : m ≤ 140737488355328)
    (hrl : row.length = r) (hrr : Rd w R (sts row)) (hrll : r ≤ 140737488355328) (hss : ∀ s ∈ row, s.2.2.1.2.2.size ≤ 140737488355328 ∧ s.2.2.2.2.2.size ≤ 140737488355328) (hql : Fs.length = q) (hrf : Rd w B (frs Fs)) (hqll : q ≤ 140737488355328) (hok : ∀ f ∈ Fs, f.ok) :
    Calls Try.prog 20 #[.slice P n pcap, .slice K m kcap, .slice R r rcap, .slice B q qcap] w fun e w' => e = .returned (.tuple #[.int .i64 ((Cnd.prn ks p row Fs).1 : Nat), .int .i64 ((Cnd.prn ks p row Fs).2 : Nat)]) ∧ Ext w w' := by
  have HCK := hid (condCheck_any ks p P K n pcap m kcap w hn hp hnl hm hk hml)
  have hc7 := Cnd.chk_le ks p
  have hmI : (m : Int) ≤ 140737488355328 := by omega
  have hrI : (r : Int) ≤ 140737488355328 := by omega
  have hqI : (q : Int) ≤ 140737488355328 := by omega
  by_cases h0 : Cnd.chk ks p = 0
  · rw [h0] at HCK
    by_cases h1 : r = m
    · subst h1
      by_cases h2 : q = r
      · subst h2
        have HKL := hid hm
        have HRL := hid hrl
        have HKR := hid hk
        have HRR := hid hrr
        have HV := hid (fun wx (hx : Ext w wx) => setOf_any ks p row Fs P R B n pcap q rcap qcap wx h0 hn hnc (hp.keep hx) hpn hrl hql hm hml (hrr.keep hx) (hrf.keep hx) hok hss)
        obtain ⟨V, hV⟩ : ∃ V, V = Cnd.val (Cnd.setf row Fs) Cnd.alls p := ⟨_, rfl⟩
        rw [← hV] at HV
        have HRES := hid (show Cnd.prn ks p row Fs = if Cnd.schk (ks.drop 0) (row.drop 0) ≠ 0 then (0, Cnd.schk (ks.drop 0) (row.drop 0)) else (V, 0) by
          by_cases h3 : Cnd.schk ks row = 0
          · rw [Cnd.prn_ok h0 (by omega) (by omega) h3, List.drop_zero, List.drop_zero, if_neg (by omega), hV]
          · rw [Cnd.prn_row h0 (by omega) (by omega) h3, List.drop_zero, List.drop_zero, if_pos h3])
        obtain ⟨Z, hZ⟩ : ∃ Z, Z = Cnd.prn ks p row Fs := ⟨_, rfl⟩
        rw [← hZ] at HRES ⊢
        clear hn hp hnl hm hk hml hrl hrr hrll hV hZ hc7 h0 hss hnc hql hrf hqll hok hpn
        go_enter Try.func20, Try.ntmps20
        go_wp2_with (first | (go_at_call 18; go_loud (refine HCK.out.mono ?_; rintro e w1 ⟨rfl, x1⟩; have X1 := hid x1; clear x1)))
        go_loopw [10, 11] (fun _ c wr => ∃ k : Nat, k ≤ q ∧ c = .int .i64 k ∧ Hid (Z = if Cnd.schk (ks.drop k) (row.drop k) ≠ 0 then (0, Cnd.schk (ks.drop k) (row.drop k)) else (V, 0)) ∧ Ext w wr) (fun _ c _ => q - (intOf c).toNat)
        case atStart => exact ⟨0, Nat.zero_le _, rfl, HRES, X1.out⟩
        case round =>
          obtain ⟨k, hk, rfl, HI, X⟩ := hrel
          by_cases hlt : k < q
          · have hkr : k < row.length := by rw [HRL.out]; exact hlt
            have hkk : k < ks.length := by rw [HKL.out]; exact hlt
            obtain ⟨b1, o1, e1, l1, c1⟩ := HKR.out.ints k hkk
            subst e1
            have d0 := (X.cell (p := ⟨b1, o1 + k, none⟩) l1).trans (c1 k hkk)
            obtain ⟨b2, o2, e2, l2, c2⟩ := HRR.out.stas k hkr
            subst e2
            obtain ⟨g0, g1, g2, g3, g4, g5, g6, g7⟩ := c2 k hkr
            have r0 := (X.cell (p := ⟨b2, o2 + k * 8, none⟩) l2).trans g0
            have r1 := (X.cell (p := ⟨b2, o2 + k * 8 + 1, none⟩) l2).trans g1
            have r2 := (X.cell (p := ⟨b2, o2 + k * 8 + 2, none⟩) l2).trans g2
            have r3 := (X.cell (p := ⟨b2, o2 + k * 8 + 3, none⟩) l2).trans g3
            have r4 := (X.cell (p := ⟨b2, o2 + k * 8 + 4, none⟩) l2).trans g4
            have r5 := (X.cell (p := ⟨b2, o2 + k * 8 + 5, none⟩) l2).trans g5
            have r6 := (X.cell (p := ⟨b2, o2 + k * 8 + 6, none⟩) l2).trans g6
            have r7 := (X.cell (p := ⟨b2, o2 + k * 8 + 7, none⟩) l2).trans g7
            have HBA := hid (fun h => Cnd.schk_bad (ks := ks) (row := row) hkk hkr h)
            have HBN := hid (fun h => Cnd.schk_next (ks := ks) (row := row) hkk hkr h)
            clear c1 c2 g0 g1 g2 g3 g4 g5 g6 g7
            generalize ks[k] = kd at *
            generalize row[k] = x at *
            clear hkr hkk
            have HCC := hid (fun wx => knownCheck_any kd x wx)
            obtain ⟨E, hE⟩ : ∃ E, E = Cel.sck kd x := ⟨_, rfl⟩
            have hE7 := Cel.sck_le kd x
            rw [← hE] at HCC HBA HBN hE7
            clear hE
            obtain ⟨rows, nulls, ⟨lk, ln, ls⟩, mk, mn, mss⟩ := x
            simp only at r0 r1 r2 r3 r4 r5 r6 r7
            have hkI : (k : Int) < (q : Int) := by omega
            have d0r := cell_regrown d0
            have r0r := cell_regrown r0
            have r1r := cell_regrown r1
            have r2r := cell_regrown r2
            have r3r := cell_regrown r3
            have r4r := cell_regrown r4
            have r5r := cell_regrown r5
            have r6r := cell_regrown r6
            have r7r := cell_regrown r7
            clear d0 r0 r1 r2 r3 r4 r5 r6 r7
            go_wp2
            refine wp_region_walk [(0, true), (1, true), (2, true), (3, true), (4, true), (5, true), (6, true), (7, true), (8, false), (9, true)] (by kernel_rfl) (by kernel_rfl) (fun _ _ _ _ _ h => h) (by kernel_rfl) (by rfl) ?_
            simp only [List.filterMap_cons, List.filterMap_nil, List.getElem?_toArray, List.getElem?_cons_zero, List.getElem?_cons_succ, Option.map_some]
            repeat (refine wpM_val (by rfl) ?_; intro K hK; go_big_quiet_op; go_big_quiet_on)
            have Y0 : Ext wr wr.drew := Ext.draw (ext_refl wr)
            refine wpM_do (by rfl) ?_
            intro K hK
            go_simp
            refine Calls.mono (HCC.out _) ?_
            rintro e w3 ⟨rfl, hx⟩
            have Y2 := Y0.then hx
            refine hK _ _ Y2 ?_
            clear K hK hx
            repeat (refine wpM_val (by rfl) ?_; intro K hK; go_big_quiet_op; go_big_quiet_on)
            refine wpM_nil ?_
            have X3 := hid (X.then Y2)
            clear Y0 Y2 d0r r0r r1r r2r r3r r4r r5r r6r r7r
            by_cases hE0 : E = 0
            · have HI2 := hid (show Z = if Cnd.schk (ks.drop (k + 1)) (row.drop (k + 1)) ≠ 0 then (0, Cnd.schk (ks.drop (k + 1)) (row.drop (k + 1))) else (V, 0) by rw [HI.out, HBN.out hE0])
              subst hE0
              clear HBA HBN hE7 HI
              go_wp2
              go_roundw
              case rel => exact ⟨k + 1, by omega, by go_num, HI2, X3.out⟩
              case measure => simp [intOf]; omega
            · have HE := hid (show Z = (0, E) by rw [HI.out, HBA.out hE0, if_pos hE0])
              have e1 : ((E : Int) != 0) = true := by simp; omega
              clear HBA HBN hE7 HI hE0
              go_wp2
              go_returns
              exact ⟨by rw [HE.out]; rfl, X3.out⟩
          · obtain rfl : k = q := by omega
            have HE := hid (show Z = (V, 0) by
              rw [HI.out, show row.drop k = [] from List.drop_of_length_le (by rw [HRL.out]; exact Nat.le_refl _), Cnd.schk_end]; rfl)
            clear HI hlt
            go_wp2_with (go_at_call 54; go_loud (refine (HV.out _ X).mono ?_; rintro e w2 ⟨rfl, x2⟩; have X2 := hid x2; clear x2))
            go_returns
            exact ⟨by rw [HE.out]; rfl, X.then X2.out⟩
      · have HE := hid (Cnd.prn_len (S := row) (Fs := Fs) h0 (.inr (by omega)))
        have h1I : ((q : Int) != (r : Int)) = true := by simp; omega
        clear hn hp hnl hm hk hml hrl hrr hrll hc7 h0 hss hnc hql hrf hqll hok hpn h2
        go_enter Try.func20, Try.ntmps20
        go_wp2_with (first | (go_at_call 18; go_loud (refine HCK.out.mono ?_; rintro e w1 ⟨rfl, x1⟩; have X1 := hid x1; clear x1)))
        go_returns
        exact ⟨by rw [HE.out]; rfl, X1.out⟩
    · have HE := hid (Cnd.prn_len (S := row) (Fs := Fs) h0 (.inl (by omega)))
      have h1I : ((r : Int) != (m : Int)) = true := by simp; omega
      clear hn hp hnl hm hk hml hrl hrr hrll hc7 h0 hss hnc hql hrf hqll hok hpn h1
      go_enter Try.func20, Try.ntmps20
      go_wp2_with (first | (go_at_call 18; go_loud (refine HCK.out.mono ?_; rintro e w1 ⟨rfl, x1⟩; have X1 := hid x1; clear x1)))
      go_returns
      exact ⟨by rw [HE.out]; rfl, X1.out⟩
  · have HE := hid (Cnd.prn_bad (S := row) (Fs := Fs) h0)
    obtain ⟨E, hE⟩ : ∃ E, E = Cnd.chk ks p := ⟨_, rfl⟩
    rw [← hE] at HCK HE h0 hc7
    have e1 : ((E : Int) != 0) = true := by simp; omega
    clear hn hp hnl hm hk hml hrl hrr hrll hc7 h0 hss hE hnc hql hrf hqll hok hpn
    go_enter Try.func20, Try.ntmps20
    go_wp2_with (first | (go_at_call 18; go_loud (refine HCK.out.mono ?_; rintro e w1 ⟨rfl, x1⟩; have X1 := hid x1; clear x1)))
    go_returns
    exact ⟨by rw [HE.out]; rfl, X1.out⟩
end Go.Proofs.Ytpheegfanljeeaa
end
