/- RestCells: walk. -/
import Derived.Test.YtikdmnedbfpkeaaNlk
namespace Hy
open Go Go.RowKit
theorem from_quiet {P : Program} {f : FuncId} {args : Array Value} {v : Value} {W : World} (h : ∀ w', Ext W w' → Calls P f args w' fun e w'' => e = .returned v ∧ Ext w' w'') (d : Nat) (os : Array Obj) :
    Calls P f args (Go.Sort.grow (redrawn W d) os) fun e w'' => e = .returned v ∧ ∃ p : Regrown, w'' = Go.Sort.grow (redrawn W p.d) p.os := Calls.regrown_of (h _ (below_regrown W d os))
/-- m records that may be written, in memory from base on and below top -/
def Wr (w : World) (base top : Nat) (t : TypeId) (A : Option Addr) (m : Nat) : Prop := 0 < m → ∃ g cur, A = some ⟨g, 0, none⟩ ∧ base ≤ g ∧ g < top ∧ Blk w g t cur ∧ m * 3 ≤ cur.size
theorem Wr.of {w : World} {base : Nat} {e : TypeId} {A : Option Addr} {m c : Nat} {xs : List Value} (h : w.ownsRow base e 3 (.slice A m c) m xs) : Wr w base w.heap.size e A m := fun hm => by
  rcases h.2 with ⟨hv, h0⟩ | ⟨g, cap, cur, hv, hb, hg, hc, _, hs, _⟩
  · omega
  · injection hv with h1 h2 h3
    exact ⟨g, cur, h1, hb, Blk.lt hg, hg, by rw [hs]; exact Nat.mul_le_mul_right _ hc⟩
theorem Wr.keep {w w' : World} {base top : Nat} {t : TypeId} {A : Option Addr} {m : Nat} (h : Wr w base top t A m) (hx : Ext w w') : Wr w' base top t A m := fun hm => by
  obtain ⟨g, cur, h1, h2, h3, h4, h5⟩ := h hm
  exact ⟨g, cur, h1, h2, h3, h4.keep hx, h5⟩
end Hy
namespace Go.Proofs.Ytikdmnedbfpkeaa
open Go.RowKit Hy
theorem info_cel : (Try.prog.info? 25).map (fun i => (i.zero, i.size, i.bytes)) = some (some (.agg #[.int .i64 0, .int .u64 0, .string ⟨#[]⟩]), 3, 32) := by kernel_rfl
theorem cells_made (n : Nat) (hn : n ≤ 4398046511104) (w : World) : ∃ cur : Array Value, cur.size = (n + 1) * 3 ∧ (Instr.makeSlice 22 (.int .i64 0) (.int .i64 ((n : Int) + 1))).run Try.prog w =
    .ok (.slice (some ⟨w.heap.size, 0, none⟩) 0 (n + 1)) (w.alloc (.cells cur 25)) := by
  obtain ⟨i, hi, hz, hs, hb⟩ := info_parts info_cel
  refine ⟨madeCells (Value.agg #[.int .i64 0, .int .u64 0, .string ⟨#[]⟩]).cells ((n + 1) * 3), by simp [madeCells], ?_⟩
  rw [show ((n : Int) + 1) = ((n + 1 : Nat) : Int) from rfl, run_make w 22 25 i _ Try.underlying22 hi hz .i64 .i64 0 ((n + 1 : Nat) : Int) (by omega) (by omega) (by rw [hb]; omega) (by omega)]
  rw [hs, Int.toNat_natCast]; rfl
set_option maxHeartbeats 4000000 in
set_option maxRecDepth 100000 in
theorem restCells_yes (kind : Int) (l : List Cel) (B : Option Addr) (n cap : Nat) (w : World) (hn : l.length = n) (hr : Rd w B (cls l)) (hnn : B = none → n = 0) (hnl : n ≤ 4398046511104) (hj : Cel.cchk kind l = 0) :
    Calls Try.prog 12 #[.int .i64 kind, .slice B n cap] w fun e w' => e = .returned (.bool true) ∧ Ext w w' := by
  have hn64 : n ≤ 64 := by rw [← hn]; exact (Cel.cchk_iff.1 hj).2.1
  have hdl := Cel.dense_len l
  rw [hn] at hdl
  obtain ⟨j1, j2⟩ := Cel.back hj
  have hjn : Cel.jn (thereL l) (Cel.dense l) = l := by
    have : Cel.jout kind (thereL l) (Cel.dense l) = Cel.jn (thereL l) (Cel.dense l) := by unfold Cel.jout; rw [if_pos j1]
    rw [← this]; exact j2
  have HSP := hid (fun w' A c (h : Rd w' A (cls l)) => split_own kind l A n c w' hn h hj)
  have HJN := hid (fun w' C c D d (h1 : Rd w' C (bls (thereL l))) (h2 : Rd w' D (cls (Cel.dense l))) (h3 : (Cel.dense l).length ≤ d) => join_own kind (thereL l) (Cel.dense l) C D (Cel.dense l).length n c d w' ((thereL_len l).trans hn) h1 rfl h2 h3 j1)
  rw [hjn] at HJN
  have HSC := hid (fun w' A c A' c' (h1 : Rd w' A (cls l)) (h2 : Rd w' A' (cls l)) => sameCells_any l l A A' n n c c' w' hn hn h1 h2 (by omega))
  simp only [decide_true] at HSC
  obtain ⟨cur0, hcur, hmk⟩ := cells_made n hnl w
  have HN := hid hn; have HR := hid hr; have HNN := hid hnn
  have hnI : (n : Int) ≤ 64 := by omega
  have H64 := hid hn64
  obtain ⟨dn, hdn⟩ : ∃ dn, dn = (Cel.dense l).length := ⟨_, rfl⟩
  simp only [← hdn] at HSP HJN hdl
  have hdI : (dn : Int) ≤ 64 := by omega
  have HCUR := hid hcur
  clear hr hn hj hdl j1 j2 hjn hnn hnl hn64 hcur hdn
  generalize Cel.dense l = DL at *
  generalize thereL l = ML at *
  go_enter Try.func12, Try.ntmps12
  go_wp2_with (at_builtin; go_loud (refine wpList_app rfl (.tmp 16) (.tmp 17) rowCl rfl _ 0 [] rfl (World.ownsRow_made (base := w.heap.size) w cur0 (n + 1) (Nat.le_refl _) (by have := H64.out; unfold maxLen; omega) HCUR.out) _ n (cls l) rfl (Src.rd Try.underlying22 B n cap _ (by rw [cls_len, HN.out]) (HR.out.keep ((ext_refl _).new _)) (cls_one _) HNN.out) (by have := H64.out; unfold maxLen; omega) (by have := H64.out; omega) (by simp) ?_; intro v1 w1 hown1 hgr1 hat1 hbel1; have HO1 := hid hown1; have X1 : Hid (Ext w w1) := hid (Below.trans ((ext_refl w).new _) hbel1); clear hown1 hgr1 hat1 hbel1 hmk))
  refine Calls.mono (cNum_any _ _) ?_
  rintro e w2 ⟨rfl, hx⟩
  replace HO1 := hid (own_ext HO1.out hx)
  replace X1 := hid (X1.out.then hx)
  clear hx
  have hslF := hid (fun A c (h : n ≤ c) => fun wx : World => sl_to (P := Try.prog) (t := 22) (e := 25) (m := 3) Try.underlying22 (by kernel_rfl) A (n + 1) c .i64 n h wx)
  go_wp2_with (at_builtin; go_loud (refine wpList_app rfl (.tmp 18) (.tmp 20) rowCl rfl _ (0 + n) ([] ++ cls l) rfl (own_ext HO1.out (Ext.new (ext_refl _) _)) _ 1 (cls [(1, 77, ByteArray.empty)]) rfl (Src.rd Try.underlying22 _ 1 1 _ rfl (rd_lit rfl rfl) (cls_one _) (fun h => by cases h)) (by have := H64.out; unfold maxLen; omega) (by have := H64.out; omega) (Nat.le_trans X1.out.size (by simp)) ?_; intro v3 w3 hown3 hgr3 hat3 hbel3; have X3 : Hid (Ext w w3) := hid (Below.trans (Ext.new X1.out _) hbel3); clear hgr3 hat3 hbel3; rw [Nat.zero_add, List.nil_append, ← cls_app] at hown3; obtain ⟨A, c, rfl, hrd, hA, hc, hcm⟩ := Rd.owned hown3; have RM := hid hrd; have hcI : (n : Int) ≤ (c : Int) := (by omega); have hcI2 : (n : Int) + 1 ≤ (c : Int) := (by omega); have HCC := hid hc; have hsl := hslF.out A c (by omega); clear hown3 hrd hA hc hcm hslF HO1))
  have RP := hid (Rd.pre (ds := cls [(1, 77, ByteArray.empty)]) (by have := RM.out; rw [cls_app] at this; exact this))
  clear hsl
  refine Calls.mono (HSP.out _ _ _ RP.out) ?_
  rintro e w4 ⟨v4, v5, rfl, ho1, ho2, hx⟩
  obtain ⟨C, c1, rfl, hC1, -, hC2, -⟩ := Rd.owned ho1
  obtain ⟨D, c2, rfl, hD1, hD0, hD2, -⟩ := Rd.owned ho2
  have WD := hid (Wr.of ho2)
  have RC := hid hC1; have RD := hid hD1; have HC2 := hid hC2; have HD2 := hid hD2
  have X34 := hid hx
  clear ho1 ho2 hC1 hC2 hD1 hD0 hD2 hx
  go_wp2_with fail
  refine Calls.mono (nullsBegun_any _) ?_
  rintro e w5 ⟨rfl, hx⟩
  have HT4 := hid hx.size
  replace X34 := hid (X34.out.then hx)
  replace WD := hid (WD.out.keep hx)
  replace RC := hid (RC.out.keep hx)
  replace RD := hid (RD.out.keep hx)
  clear hx
  go_wp2_with fail
  refine Calls.mono (HJN.out _ _ _ _ _ RC.out RD.out HD2.out) ?_
  rintro e w6 ⟨v6, rfl, ho3, hx⟩
  have HO3 := hid ho3
  obtain ⟨J, jc, rfl, hJ1, -, hJ2, -⟩ := Rd.owned ho3
  have HT5 := hid X34.out.size
  replace X34 := hid (X34.out.then hx)
  replace WD := hid (WD.out.keep hx)
  clear ho3 hJ1 hJ2 hx RC RD HC2 HD2
  go_wp2
  go_loopw [11] (fun ct wr => ∃ i : Nat, i ≤ dn ∧ ct = .int .i64 i ∧ Ext w3 wr ∧ Wr wr w3.heap.size w4.heap.size 25 D dn ∧ wr.ownsRow w5.heap.size 25 3 (.slice J n jc) n (cls l)) (fun ct _ => dn - (intOf ct).toNat)
  case atStart => exact ⟨0, Nat.zero_le _, rfl, X34.out, WD.out, HO3.out⟩
  case round =>
    obtain ⟨i, hi, rfl, hX, hW, hO⟩ := hrel
    by_cases hlt : i < dn
    · obtain ⟨g, cur, rfl, hg1, hg2, hg3, hg4⟩ := hW (by omega)
      have HX := hid hX; have HO := hid hO; have HB := hid hg3
      have HG1 := hid hg1; have HG2 := hid hg2; have HG4 := hid hg4
      have hi0 : (0 : Int) ≤ (i : Int) := by omega
      have hiI : (i : Int) < (dn : Int) := by omega
      clear hX hW hO hg1 hg2 hg3 hg4
      go_wp2_with fail
      refine Calls.mono (cNum_any _ _) ?_
      rintro e w7 ⟨rfl, hx⟩
      replace HX := hid (HX.out.then hx)
      replace HO := hid (own_ext HO.out hx)
      replace HB := hid (HB.out.keep hx)
      clear hx
      go_wp2_with (with_reducible (show wpList _ _ _ (⟨none, .store 25 (.tmp 50) (.tmp 49), _, _, _, _⟩ :: _) _ _); go_loud (refine wpList_store_part rfl 25 (.tmp 50) (.tmp 49) rfl g (i * 3) #[.int .i64 1, .int .u64 5, .string .empty] _ rfl rfl 25 cur HB.out (by kernel_rfl) (by have := HG4.out; simp; omega) (by simp [Value.oneCell']) rfl w3.heap.size HG1.out ?_; intro w8 hB8 hF8 hL8; have HB8 := hid hB8; have HX8 : Hid (Ext w3 w8) := hid (Below.trans HX.out hL8); have HO8 := hid (own_far HO.out (fun e => by have h1 := (HO.out.lt g e).1; have h2 := HG2.out; have h3 := HT4.out; omega) hF8); clear hB8 hF8 hL8))
      go_roundw
      case rel => exact ⟨i + 1, by omega, by go_num, HX8.out, fun _ => ⟨g, _, rfl, HG1.out, HG2.out, HB8.out, by have := HG4.out; simp; omega⟩, HO8.out⟩
      case measure => simp [intOf]; omega
    · obtain rfl : dn = i := by omega
      have hX2 := hid hX
      have HO := hid hO
      obtain ⟨J', jc', hv, hJ1, -, -, -⟩ := Rd.owned hO
      injection hv with hv1 hv2 hv3
      subst hv1
      have RJ := hid hJ1
      have RL := hid (HR.out.keep (X3.out.then hX))
      clear hX hW hO hJ1 hv2 hv3 hi hlt
      go_wp2_with fail
      refine Calls.mono (HSC.out _ _ _ _ _ RJ.out RL.out) ?_
      rintro e w9 ⟨rfl, hx⟩
      have X9 := hid (hX2.out.then hx)
      have WJ := hid ((Wr.of HO.out).keep hx)
      clear hx RJ RL
      go_wp2
      go_loopw [12] (fun ct wr2 => ∃ j : Nat, j ≤ n ∧ ct = .int .i64 j ∧ Ext w3 wr2 ∧ Wr wr2 w5.heap.size wr.heap.size 25 J n) (fun ct _ => n - (intOf ct).toNat)
      case atStart => exact ⟨0, Nat.zero_le _, rfl, X9.out, WJ.out⟩
      case round =>
        obtain ⟨j, hj, rfl, hX, hW⟩ := hrel
        by_cases hlt : j < n
        · obtain ⟨g, cur, rfl, hg1, hg2, hg3, hg4⟩ := hW (by omega)
          have HX := hid hX; have HB := hid hg3
          have HG1 := hid hg1; have HG4 := hid hg4
          have hi0 : (0 : Int) ≤ (j : Int) := by omega
          have hiI : (j : Int) < (n : Int) := by omega
          have HG2 := hid hg2
          clear hX hW hg1 hg2 hg3 hg4
          go_wp2_with fail
          refine Calls.mono (cNum_any _ _) ?_
          rintro e w10 ⟨rfl, hx⟩
          replace HX := hid (HX.out.then hx)
          replace HB := hid (HB.out.keep hx)
          clear hx
          go_wp2_with (with_reducible (show wpList _ _ _ (⟨none, .store 25 (.tmp 72) (.tmp 71), _, _, _, _⟩ :: _) _ _); go_loud (refine wpList_store_part rfl 25 (.tmp 72) (.tmp 71) rfl g (j * 3) #[.int .i64 1, .int .u64 6, .string .empty] _ rfl rfl 25 cur HB.out (by kernel_rfl) (by have := HG4.out; simp; omega) (by simp [Value.oneCell']) rfl w3.heap.size (by have h1 := HG1.out; have h2 := HT5.out; omega) ?_; intro w11 hB8 hF8 hL8; have HB8 := hid hB8; have HX8 : Hid (Ext w3 w11) := hid (Below.trans HX.out hL8); clear hB8 hF8 hL8))
          go_roundw
          case rel => exact ⟨j + 1, by omega, by go_num, HX8.out, fun _ => ⟨g, _, rfl, HG1.out, HG2.out, HB8.out, by have := HG4.out; simp; omega⟩⟩
          case measure => simp [intOf]; omega
        · obtain rfl : n = j := by omega
          have RT := RM.out.keep hX
          have RT2 := hid (RP.out.keep hX)
          have RL := hid (HR.out.keep (X3.out.then hX))
          obtain ⟨b, o, rfl, lb, cb⟩ := RT.cels n (by rw [List.length_append, HN.out]; simp)
          have hq := cb n (by rw [List.length_append, HN.out]; simp)
          simp only [List.getElem_append_right (show l.length ≤ n from by rw [HN.out]; exact Nat.le_refl _), HN.out, Nat.sub_self, List.getElem_cons_zero] at hq
          have d0 := hq.1
          have d1 := hq.2.1
          have d2 := hq.2.2
          have d0r := cell_regrown d0
          have d1r := cell_regrown d1
          have d2r := cell_regrown d2
          have XE := hid (X3.out.then hX)
          have GS := from_quiet (W := wr) (fun w' hx => HSC.out w' (some ⟨b, o, none⟩) c B cap (RT2.out.keep hx) (RL.out.keep hx))
          have GN : Gives Try.prog 33 #[.int .u64 77] (.agg #[.int .i64 1, .int .u64 77, .string .empty]) := fun w => cNum_any 77 w
          have hsl := fun wx : World => sl_to (P := Try.prog) (t := 22) (e := 25) (m := 3) Try.underlying22 (by kernel_rfl) (some ⟨b, o, none⟩) n c .i64 (n + 1) HCC.out wx
          have hsl' : ∀ wx : World, (Instr.sliceAt 22 (.slice (some ⟨b, o, none⟩) n c) none (some (.int .i64 ((n : Int) + 1))) none).run Try.prog wx = .ok (.slice (some ⟨b, o, none⟩) (n + 1) c) wx := hsl
          have hwn : IntKind.i64.wrap ((n : Int) + 1) = (n : Int) + 1 := by rw [IntKind.wrap_i64]; omega
          have hwn2 : IntKind.i64.wrap (n : Int) = (n : Int) := by rw [IntKind.wrap_i64]; omega
          have hn0 : (0 : Int) ≤ (n : Int) := by omega
          have hn1 : (n : Int) < (n : Int) + 1 := by omega
          clear hX hW cb hq RT hsl lb hj hlt
          go_wp2_with fail
          refine wp_region_quiet_below (by kernel_rfl) (by kernel_rfl) ?_
          repeat (go_big_quiet_step (first
            | (go_at_call 27; with_reducible exact GS _ _)
            | (go_at_call 33; with_reducible exact GN.quiet _ _ _)))
          refine wpQuiet_nil ?_
          intro w12 hw12
          have hx := (show Ext _ w12 from by obtain ⟨p, rfl⟩ := hw12; exact ext_regrown _ p)
          replace XE := hid (XE.out.then hx)
          clear hx hw12 d0 d1 d2 d0r d1r d2r hsl' hwn hwn2
          go_wp2
          go_returns
          exact ⟨rfl, XE.out⟩
end Go.Proofs.Ytikdmnedbfpkeaa
