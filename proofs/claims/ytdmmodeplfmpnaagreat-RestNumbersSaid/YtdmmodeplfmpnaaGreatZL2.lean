/- Texts of this claim, put together: walks and plain laws. -/
import Derived.Test.YtdmmodeplfmpnaaGreatZL1
import Derived.Test.YtdmmodeplfmpnaaGreatZE1
section
namespace Hy
open Go Go.RowKit
theorem maxed {m c : Nat} (h : m ≤ c) (h2 : c ≤ maxLen) : (m : Int) ≤ 9223372036854775807 := by unfold maxLen at h2; omega
def Wr1 (w : World) (base top : Nat) (t : TypeId) (A : Option Addr) (m : Nat) : Prop := 0 < m → ∃ g cur, A = some ⟨g, 0, none⟩ ∧ base ≤ g ∧ g < top ∧ Blk w g t cur ∧ m ≤ cur.size
theorem Wr1.of {w : World} {base : Nat} {e : TypeId} {A : Option Addr} {m c : Nat} {xs : List Value} (h : w.ownsRow base e 1 (.slice A m c) m xs) : Wr1 w base w.heap.size e A m := fun hm => by
  rcases h.2 with ⟨hv, h0⟩ | ⟨g, cap, cur, hv, hb, hg, hc, _, hs, _⟩
  · omega
  · injection hv with h1 h2 h3
    exact ⟨g, cur, h1, hb, Blk.lt hg, hg, by rw [hs]; omega⟩
theorem Wr1.keep {w w' : World} {base top : Nat} {t : TypeId} {A : Option Addr} {m : Nat} (h : Wr1 w base top t A m) (hx : Ext w w') : Wr1 w' base top t A m := fun hm => by
  obtain ⟨g, cur, h1, h2, h3, h4, h5⟩ := h hm
  exact ⟨g, cur, h1, h2, h3, h4.keep hx, h5⟩
theorem Wr1.far {w : World} {base top : Nat} {t : TypeId} {A : Option Addr} {m : Nat} (h : Wr1 w base top t A m) {p : Addr} (hp : p.block < base ∨ top ≤ p.block) (u : Value) : Wr1 (w.setCell p u) base top t A m := fun hm => by
  obtain ⟨g, cur, h1, h2, h3, h4, h5⟩ := h hm
  exact ⟨g, cur, h1, h2, h3, h4.far (by omega) u, h5⟩
end Hy
namespace Go.Proofs.YtdmmodeplfmpnaaGreat
open Go.RowKit Hy
theorem info_n64 : (Tryz.prog.info? 39).map (fun i => (i.zero, i.size, i.bytes)) = some (some (.int .u64 0), 1, 8) := by kernel_rfl
theorem nums_made (n : Nat) (hn : n ≤ 17592186044416) (w : World) : ∃ cur : Array Value, cur.size = (n + 1) * 1 ∧ (Instr.makeSlice 22 (.int .i64 0) (.int .i64 ((n : Int) + 1))).run Tryz.prog w =
    .ok (.slice (some ⟨w.heap.size, 0, none⟩) 0 (n + 1)) (w.alloc (.cells cur 39)) := by
  obtain ⟨i, hi, hz, hs, hb⟩ := info_parts info_n64
  refine ⟨madeCells (Value.int .u64 0).cells ((n + 1) * 1), by simp [madeCells], ?_⟩
  rw [show ((n : Int) + 1) = ((n + 1 : Nat) : Int) from rfl, run_make w 22 39 i _ Tryz.underlying22 hi hz .i64 .i64 0 ((n + 1 : Nat) : Int) (by omega) (by omega) (by rw [hb]; omega) (by omega)]
  rw [hs, Int.toNat_natCast]; rfl
set_option maxHeartbeats 8000000 in
set_option maxRecDepth 100000 in
theorem restNumbers_walk (l : List Nat) (B : Option Addr) (n cap : Nat) (w : World) (hn : l.length = n) (hr : Rd w B (u64s l)) (hl : ∀ x ∈ l, x < 18446744073709551616) (hnl : n ≤ 17592186044416) :
    Calls Tryz.prog 6 #[.slice B n cap] w fun e w' => e = .returned (.bool true) ∧ Ext w w' := by
  have hnn : B = none → n = 0 := fun e => by
    subst e
    rcases Nat.eq_zero_or_pos n with h | h
    · exact h
    · obtain ⟨_, _, h2, _⟩ := hr (by rw [u64s_len, hn]; exact h)
      cases h2
  have H1 := hid (fun A c wx (h : Rd wx A (u64s l)) => diffs_own l A n c wx hn h hl (by omega))
  have H2 := hid (fun A c wx (h : Rd wx A (u64s l)) => sums_own l A n c wx hn h hl (by omega))
  have H3 := hid (fun A c wx (h : Rd wx A (u64s l)) => pWrite_any l A n c wx hn h hl (by omega))
  have H4 := hid (fun A c wx (h : Rd wx A (u64s l)) (hc : n ≤ c) => bestNumbers_any l A n c wx hn h hc hl (by omega))
  have hbl : (Cod.bnm l).1.length ≤ 2001 := by
    unfold Cod.bnm
    split
    · simp
    · exact Cod.up_len (Cod.nm l) 1 3 2000 (fun j => Cod.nm_len l j (by omega) hl)
  have H5 := hid (fun wx => readNumbers_own ⟨(Cod.bnm l).1.toArray⟩ n wx (by rw [str_size]; omega))
  have HS := hid (fun A c wx (h : Rd wx A (u64s l)) (h2 : Rd wx B (u64s l)) => sameNums_any l l A B n n c cap wx hn hn h h2 (by omega))
  rw [show sameNums l l = true from decide_eq_true rfl] at HS
  have HB1 := hid (fun wx => deltaBegun_any wx)
  have HB2 := hid (fun wx => codecBegun_any wx)
  unfold NumsOwn at H1 H2 H5
  generalize Dlt.df l = R1 at *
  generalize Dlt.sm l = R2 at *
  generalize Pat.wrt l = R3 at *
  obtain ⟨⟨s4, e4⟩, hq4⟩ : ∃ q, Cod.bnm l = q := ⟨_, rfl⟩
  rw [hq4] at H4 H5
  simp only at H4 H5
  generalize Cod.rnm s4 n = R5 at *
  obtain ⟨S4, hS4⟩ : ∃ S : ByteArray, S = ⟨s4.toArray⟩ := ⟨_, rfl⟩
  rw [← hS4] at H4 H5
  obtain ⟨cur0, hcur, hmk⟩ := nums_made n hnl w
  have HN := hid hn; have HR := hid hr; have HNN := hid hnn
  have hnI : (n : Int) ≤ 17592186044416 := by omega
  have H64 := hid hnl
  have HCUR := hid hcur
  obtain ⟨m1, hm1⟩ : ∃ m, m = R1.1.length := ⟨_, rfl⟩
  obtain ⟨m2, hm2⟩ : ∃ m, m = R2.1.length := ⟨_, rfl⟩
  obtain ⟨m5, hm5⟩ : ∃ m, m = R5.1.length := ⟨_, rfl⟩
  rw [← hm1] at H1
  rw [← hm2] at H2
  rw [← hm5] at H5
  clear hr hn hl hnl hcur hnn hbl hq4 hS4 hm1 hm2 hm5
  have hslF := hid (fun A c (h : n ≤ c) => fun wx : World => sl_to (P := Tryz.prog) (t := 22) (e := 39) (m := 1) Tryz.underlying22 (by kernel_rfl) A (n + 1) c .i64 n h wx)
  go_enter Tryz.func6, Tryz.ntmps6
  go_wp2_with (first
    | (at_builtin; refine wpList_app rfl (.tmp 20) (.tmp 21) rowU64 rfl _ 0 [] rfl (World.ownsRow_made (base := w.heap.size) w cur0 (n + 1) (Nat.le_refl _) (by have := H64.out; unfold maxLen; omega) HCUR.out) _ n (u64s l) rfl (Src.rd Tryz.underlying22 B n cap _ (by rw [u64s_len, HN.out, Nat.mul_one]) (HR.out.keep ((ext_refl _).new _)) (u64s_one _) HNN.out) (by have := H64.out; unfold maxLen; omega) (by have := H64.out; omega) (by simp) ?_; intro v1 w1 hown1 hgr1 hat1 hbel1; have HO1 := hid hown1; have X1 : Hid (Ext w w1) := hid (Below.trans ((ext_refl w).new _) hbel1); clear hown1 hgr1 hat1 hbel1 hmk)
    | (at_builtin; refine wpList_app rfl (.tmp 22) (.tmp 23) rowU64 rfl _ (0 + n) ([] ++ u64s l) rfl (own_ext HO1.out (Ext.new (ext_refl _) _)) _ 1 (u64s [77]) rfl (Src.rd Tryz.underlying22 _ 1 1 _ rfl (rd_lit rfl rfl) (u64s_one _) (fun h => by cases h)) (by have := H64.out; unfold maxLen; omega) (by have := H64.out; omega) (Nat.le_trans X1.out.size (by simp)) ?_; intro v3 w3 hown3 hgr3 hat3 hbel3; have X3 : Hid (Ext w w3) := hid (Below.trans (Ext.new X1.out _) hbel3); clear hgr3 hat3 hbel3; rw [Nat.zero_add, List.nil_append, ← u64s_app] at hown3; obtain ⟨A, c, rfl, hrd, hA, hc, hcm⟩ := Rd.owned hown3; have RM := hid hrd; have hcI : (n : Int) ≤ (c : Int) := (by omega); have hcI2 : (n : Int) + 1 ≤ (c : Int) := (by omega); have HCC := hid hc; have hsl := hslF.out A c (by omega); clear hown3 hrd hA hc hcm hslF HO1))
  have RP := hid (Rd.pre (ds := u64s [77]) (by have := RM.out; rw [u64s_app] at this; exact this))
  clear hsl
  refine Calls.mono (H1.out _ _ _ RP.out) ?_
  rintro e w4 ⟨v, rfl, hown, hx⟩
  obtain ⟨D1, c1, rfl, _, _, q1, q2⟩ := Rd.owned hown
  have M1I := hid (maxed q1 q2)
  clear q1 q2
  have W1 := hid (Wr1.of hown)
  have XT := hid hx
  clear hown hx
  go_wp2_with fail
  refine Calls.mono (H2.out _ _ _ (RP.out.keep XT.out)) ?_
  rintro e w5 ⟨v, rfl, hown, hx⟩
  obtain ⟨D2, c2, rfl, _, _, q1, q2⟩ := Rd.owned hown
  have M2I := hid (maxed q1 q2)
  clear q1 q2
  have T4 := hid XT.out.size
  have T5 := hid hx.size
  have W2 := hid (Wr1.of hown)
  replace W1 := hid (W1.out.keep hx)
  replace XT := hid (XT.out.then hx)
  clear hown hx
  go_wp2_with fail
  refine Calls.mono (H3.out _ _ _ (RP.out.keep XT.out)) ?_
  rintro e w6 ⟨rfl, hx⟩
  replace W1 := hid (W1.out.keep hx)
  replace W2 := hid (W2.out.keep hx)
  have T6 := hid hx.size
  replace XT := hid (XT.out.then hx)
  clear hx
  go_wp2_with fail
  refine Calls.mono (H4.out _ _ _ (RP.out.keep XT.out) (by have := HCC.out; omega)) ?_
  rintro e w7 ⟨rfl, hx⟩
  have T7 := hid hx.size
  replace W1 := hid (W1.out.keep hx)
  replace W2 := hid (W2.out.keep hx)
  replace XT := hid (XT.out.then hx)
  clear hx
  go_wp2_with fail
  refine Calls.mono (H5.out _) ?_
  rintro e w8 ⟨v, rfl, hown, hx⟩
  obtain ⟨D3, c3, rfl, _, _, q1, q2⟩ := Rd.owned hown
  have M3I := hid (maxed q1 q2)
  clear q1 q2
  have T8 := hid hx.size
  have W3 := hid (Wr1.of hown)
  replace W1 := hid (W1.out.keep hx)
  replace W2 := hid (W2.out.keep hx)
  replace XT := hid (XT.out.then hx)
  clear hown hx
  go_wp2_with fail
  refine Calls.mono (HB1.out _) ?_
  rintro e w9 ⟨rfl, hx⟩
  have T9 := hid hx.size
  replace W1 := hid (W1.out.keep hx)
  replace W2 := hid (W2.out.keep hx)
  replace W3 := hid (W3.out.keep hx)
  replace XT := hid (XT.out.then hx)
  clear hx
  go_wp2_with fail
  refine Calls.mono (HB2.out _) ?_
  rintro e w10 ⟨rfl, hx⟩
  have T10 := hid hx.size
  replace W1 := hid (W1.out.keep hx)
  replace W2 := hid (W2.out.keep hx)
  replace W3 := hid (W3.out.keep hx)
  replace XT := hid (XT.out.then hx)
  clear hx
  go_wp2
  go_loopw [13, 14, 66] (fun _ _ ct wr => ∃ k : Nat, k ≤ 3 ∧ ct = .int .i64 k ∧ Hid (Ext w3 wr) ∧ Hid (Blk wr w10.heap.size 22 #[.slice D1 m1 c1, .slice D2 m2 c2, .slice D3 m5 c3]) ∧ Hid (Wr1 wr w3.heap.size w4.heap.size 39 D1 m1) ∧ Hid (Wr1 wr w4.heap.size w5.heap.size 39 D2 m2) ∧ Hid (Wr1 wr w7.heap.size w8.heap.size 39 D3 m5)) (fun _ _ ct _ => 3 - (intOf ct).toNat)
  case atStart => exact ⟨0, Nat.zero_le _, rfl, hid (Ext.new XT.out _), hid (Blk.new _ _ _), hid (W1.out.keep (Ext.new (ext_refl _) _)), hid (W2.out.keep (Ext.new (ext_refl _) _)), hid (W3.out.keep (Ext.new (ext_refl _) _))⟩
  case round =>
    obtain ⟨k, hk, rfl, HX, LB, W1, W2, W3⟩ := hrel
    rcases (show k = 0 ∨ k = 1 ∨ k = 2 ∨ k = 3 by omega) with rfl | rfl | rfl | rfl
    · have d0 := LB.out.cell 0
      rw [show ((0 : Nat) : Int) = 0 from rfl]
      clear hk
      go_wp2
      go_loopw [14] (fun cj wr2 => ∃ j : Nat, j ≤ m1 ∧ cj = .int .i64 j ∧ Hid (Ext w3 wr2) ∧ Hid (Blk wr2 w10.heap.size 22 #[.slice D1 m1 c1, .slice D2 m2 c2, .slice D3 m5 c3]) ∧ Hid (Wr1 wr2 w3.heap.size w4.heap.size 39 D1 m1) ∧ Hid (Wr1 wr2 w4.heap.size w5.heap.size 39 D2 m2) ∧ Hid (Wr1 wr2 w7.heap.size w8.heap.size 39 D3 m5)) (fun cj _ => m1 - (intOf cj).toNat)
      case atStart => exact ⟨0, Nat.zero_le _, rfl, HX, LB, W1, W2, W3⟩
      case round =>
        obtain ⟨j, hj, rfl, HX2, LB2, V1, V2, V3⟩ := hrel
        by_cases hlt2 : j < m1
        · obtain ⟨g, cur, hgA, hg1, hg2, hg3, hg4⟩ := V1.out (by omega)
          have hj0 : (0 : Int) ≤ (j : Int) := by omega
          have hjI : (j : Int) < (m1 : Int) := by omega
          have hjM : (j : Int) ≤ 9223372036854775806 := by have := M1I.out; omega
          have HJ := hid hlt2
          subst hgA
          have d1' := hg3.cell j
          rw [Array.getElem?_eq_getElem (show j < cur.size by omega)] at d1'
          obtain ⟨u0, d1⟩ : ∃ u0, wr.cell? ⟨g, j, none⟩ = some u0 := ⟨_, d1'⟩
          have f1 := hg3.frozen j
          have HG3 := hid hg3
          have HG4 := hid hg4
          have hT3 := T4.out
          have hgw3 : w3.heap.size ≤ g := by have := T5.out; have := T6.out; have := T7.out; omega
          have hg10 : g < w10.heap.size := by have := T5.out; have := T6.out; have := T7.out; have := T8.out; have := T9.out; have := T10.out; omega
          have HP := hid (fun u : Value => Ext.put HX2.out (p := ⟨g, j, none⟩) hgw3 u)
          have HL2 := hid (fun u : Value => LB2.out.far (p := ⟨g, j, none⟩) (by show w10.heap.size ≠ g; omega) u)
          have HV1 := hid (fun u : Value => show Wr1 (wr.setCell ⟨g, j, none⟩ u) w3.heap.size w4.heap.size 39 (some ⟨g, 0, none⟩) m1 from fun _ => ⟨g, _, rfl, hg1, hg2, hg3.set j u, by rw [Array.size_setIfInBounds]; omega⟩)
          have HV2 := hid (fun u : Value => V2.out.far (p := ⟨g, j, none⟩) (by show g < w4.heap.size ∨ w5.heap.size ≤ g; have := T4.out; have := T5.out; have := T6.out; have := T7.out; omega) u)
          have HV3 := hid (fun u : Value => V3.out.far (p := ⟨g, j, none⟩) (by show g < w7.heap.size ∨ w8.heap.size ≤ g; have := T4.out; have := T5.out; have := T6.out; have := T7.out; omega) u)
          clear d1' hg1 hg2 hg3 hg4 hgw3 hg10 hlt2 hj hT3
          go_wp2
          go_roundw
          case rel => exact ⟨j + 1, HJ.out, by go_num, hid (HP.out _), hid (HL2.out _), hid (HV1.out _), hid (HV2.out _), hid (HV3.out _)⟩
          case measure => simp [intOf]; have := HJ.out; omega
        · have hjN : ¬ (j : Int) < (m1 : Int) := by omega
          clear hlt2 hj
          go_wp2
          go_roundw
          case rel => exact ⟨1, by decide, rfl, HX2, LB2, V1, V2, V3⟩
          case measure => simp [intOf]
    · have d0 := LB.out.cell 1
      rw [show ((1 : Nat) : Int) = 1 from rfl]
      clear hk
      go_wp2
      go_loopw [14] (fun cj wr2 => ∃ j : Nat, j ≤ m2 ∧ cj = .int .i64 j ∧ Hid (Ext w3 wr2) ∧ Hid (Blk wr2 w10.heap.size 22 #[.slice D1 m1 c1, .slice D2 m2 c2, .slice D3 m5 c3]) ∧ Hid (Wr1 wr2 w3.heap.size w4.heap.size 39 D1 m1) ∧ Hid (Wr1 wr2 w4.heap.size w5.heap.size 39 D2 m2) ∧ Hid (Wr1 wr2 w7.heap.size w8.heap.size 39 D3 m5)) (fun cj _ => m2 - (intOf cj).toNat)
      case atStart => exact ⟨0, Nat.zero_le _, rfl, HX, LB, W1, W2, W3⟩
      case round =>
        obtain ⟨j, hj, rfl, HX2, LB2, V1, V2, V3⟩ := hrel
        by_cases hlt2 : j < m2
        · obtain ⟨g, cur, hgA, hg1, hg2, hg3, hg4⟩ := V2.out (by omega)
          have hj0 : (0 : Int) ≤ (j : Int) := by omega
          have hjI : (j : Int) < (m2 : Int) := by omega
          have hjM : (j : Int) ≤ 9223372036854775806 := by have := M2I.out; omega
          have HJ := hid hlt2
          subst hgA
          have d1' := hg3.cell j
          rw [Array.getElem?_eq_getElem (show j < cur.size by omega)] at d1'
          obtain ⟨u0, d1⟩ : ∃ u0, wr.cell? ⟨g, j, none⟩ = some u0 := ⟨_, d1'⟩
          have f1 := hg3.frozen j
          have HG3 := hid hg3
          have HG4 := hid hg4
          have hT3 := T4.out
          have hgw3 : w3.heap.size ≤ g := by have := T5.out; have := T6.out; have := T7.out; omega
          have hg10 : g < w10.heap.size := by have := T5.out; have := T6.out; have := T7.out; have := T8.out; have := T9.out; have := T10.out; omega
          have HP := hid (fun u : Value => Ext.put HX2.out (p := ⟨g, j, none⟩) hgw3 u)
          have HL2 := hid (fun u : Value => LB2.out.far (p := ⟨g, j, none⟩) (by show w10.heap.size ≠ g; omega) u)
          have HV1 := hid (fun u : Value => V1.out.far (p := ⟨g, j, none⟩) (by show g < w3.heap.size ∨ w4.heap.size ≤ g; have := T4.out; have := T5.out; have := T6.out; have := T7.out; omega) u)
          have HV2 := hid (fun u : Value => show Wr1 (wr.setCell ⟨g, j, none⟩ u) w4.heap.size w5.heap.size 39 (some ⟨g, 0, none⟩) m2 from fun _ => ⟨g, _, rfl, hg1, hg2, hg3.set j u, by rw [Array.size_setIfInBounds]; omega⟩)
          have HV3 := hid (fun u : Value => V3.out.far (p := ⟨g, j, none⟩) (by show g < w7.heap.size ∨ w8.heap.size ≤ g; have := T4.out; have := T5.out; have := T6.out; have := T7.out; omega) u)
          clear d1' hg1 hg2 hg3 hg4 hgw3 hg10 hlt2 hj hT3
          go_wp2
          go_roundw
          case rel => exact ⟨j + 1, HJ.out, by go_num, hid (HP.out _), hid (HL2.out _), hid (HV1.out _), hid (HV2.out _), hid (HV3.out _)⟩
          case measure => simp [intOf]; have := HJ.out; omega
        · have hjN : ¬ (j : Int) < (m2 : Int) := by omega
          clear hlt2 hj
          go_wp2
          go_roundw
          case rel => exact ⟨2, by decide, rfl, HX2, LB2, V1, V2, V3⟩
          case measure => simp [intOf]
    · have d0 := LB.out.cell 2
      rw [show ((2 : Nat) : Int) = 2 from rfl]
      clear hk
      go_wp2
      go_loopw [14] (fun cj wr2 => ∃ j : Nat, j ≤ m5 ∧ cj = .int .i64 j ∧ Hid (Ext w3 wr2) ∧ Hid (Blk wr2 w10.heap.size 22 #[.slice D1 m1 c1, .slice D2 m2 c2, .slice D3 m5 c3]) ∧ Hid (Wr1 wr2 w3.heap.size w4.heap.size 39 D1 m1) ∧ Hid (Wr1 wr2 w4.heap.size w5.heap.size 39 D2 m2) ∧ Hid (Wr1 wr2 w7.heap.size w8.heap.size 39 D3 m5)) (fun cj _ => m5 - (intOf cj).toNat)
      case atStart => exact ⟨0, Nat.zero_le _, rfl, HX, LB, W1, W2, W3⟩
      case round =>
        obtain ⟨j, hj, rfl, HX2, LB2, V1, V2, V3⟩ := hrel
        by_cases hlt2 : j < m5
        · obtain ⟨g, cur, hgA, hg1, hg2, hg3, hg4⟩ := V3.out (by omega)
          have hj0 : (0 : Int) ≤ (j : Int) := by omega
          have hjI : (j : Int) < (m5 : Int) := by omega
          have hjM : (j : Int) ≤ 9223372036854775806 := by have := M3I.out; omega
          have HJ := hid hlt2
          subst hgA
          have d1' := hg3.cell j
          rw [Array.getElem?_eq_getElem (show j < cur.size by omega)] at d1'
          obtain ⟨u0, d1⟩ : ∃ u0, wr.cell? ⟨g, j, none⟩ = some u0 := ⟨_, d1'⟩
          have f1 := hg3.frozen j
          have HG3 := hid hg3
          have HG4 := hid hg4
          have hT3 := T4.out
          have hgw3 : w3.heap.size ≤ g := by have := T5.out; have := T6.out; have := T7.out; omega
          have hg10 : g < w10.heap.size := by have := T5.out; have := T6.out; have := T7.out; have := T8.out; have := T9.out; have := T10.out; omega
          have HP := hid (fun u : Value => Ext.put HX2.out (p := ⟨g, j, none⟩) hgw3 u)
          have HL2 := hid (fun u : Value => LB2.out.far (p := ⟨g, j, none⟩) (by show w10.heap.size ≠ g; omega) u)
          have HV1 := hid (fun u : Value => V1.out.far (p := ⟨g, j, none⟩) (by show g < w3.heap.size ∨ w4.heap.size ≤ g; have := T4.out; have := T5.out; have := T6.out; have := T7.out; omega) u)
          have HV2 := hid (fun u : Value => V2.out.far (p := ⟨g, j, none⟩) (by show g < w4.heap.size ∨ w5.heap.size ≤ g; have := T4.out; have := T5.out; have := T6.out; have := T7.out; omega) u)
          have HV3 := hid (fun u : Value => show Wr1 (wr.setCell ⟨g, j, none⟩ u) w7.heap.size w8.heap.size 39 (some ⟨g, 0, none⟩) m5 from fun _ => ⟨g, _, rfl, hg1, hg2, hg3.set j u, by rw [Array.size_setIfInBounds]; omega⟩)
          clear d1' hg1 hg2 hg3 hg4 hgw3 hg10 hlt2 hj hT3
          go_wp2
          go_roundw
          case rel => exact ⟨j + 1, HJ.out, by go_num, hid (HP.out _), hid (HL2.out _), hid (HV1.out _), hid (HV2.out _), hid (HV3.out _)⟩
          case measure => simp [intOf]; have := HJ.out; omega
        · have hjN : ¬ (j : Int) < (m5 : Int) := by omega
          clear hlt2 hj
          go_wp2
          go_roundw
          case rel => exact ⟨3, by decide, rfl, HX2, LB2, V1, V2, V3⟩
          case measure => simp [intOf]
    · rw [show ((3 : Nat) : Int) = 3 from rfl]
      obtain ⟨b, o, eA, lb, cb⟩ := (RM.out.keep HX.out).num0 (by rw [List.length_append]; simp)
      subst eA
      have d0 := cb n 77 (by rw [List.getElem?_append_right (by rw [HN.out]; exact Nat.le_refl _), HN.out, Nat.sub_self]; rfl)
      have hsl := fun wx : World => sl_to (P := Tryz.prog) (t := 22) (e := 39) (m := 1) Tryz.underlying22 (by kernel_rfl) (some ⟨b, o, none⟩) n c .i64 (n + 1) HCC.out wx
      have hsl' : ∀ wx : World, (Instr.sliceAt 22 (.slice (some ⟨b, o, none⟩) n c) none (some (.int .i64 ((n : Int) + 1))) none).run Tryz.prog wx = .ok (.slice (some ⟨b, o, none⟩) (n + 1) c) wx := hsl
      have hn0 : (0 : Int) ≤ (n : Int) := by omega
      have hn1 : (n : Int) < (n : Int) + 1 := by omega
      have XE := hid (X3.out.then HX.out)
      clear hk cb hsl lb LB W1 W2 W3
      go_wp2_with fail
      refine Calls.mono (H4.out _ _ _ (RP.out.keep HX.out) (by have := HCC.out; omega)) ?_
      rintro e w11 ⟨rfl, hx⟩
      replace HX := hid (HX.out.then hx)
      replace XE := hid (XE.out.then hx)
      have d1 := ext_cell hx d0
      clear hx d0
      go_wp2_with fail
      refine Calls.mono (HS.out _ _ _ (RP.out.keep HX.out) (HR.out.keep XE.out)) ?_
      rintro e w12 ⟨rfl, hx⟩
      replace XE := hid (XE.out.then hx)
      have d2 := ext_cell hx d1
      clear hx d1
      go_wp2
      go_returns
      exact ⟨rfl, XE.out⟩
end Go.Proofs.YtdmmodeplfmpnaaGreat
end
