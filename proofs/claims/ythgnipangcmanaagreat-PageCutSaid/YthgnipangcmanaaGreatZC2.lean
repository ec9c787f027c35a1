/- Texts of this claim, put together: walks and plain laws. -/
import Derived.Test.YthgnipangcmanaaGreatZC1
import Derived.Test.YthgnipangcmanaaGreatZB1
import Derived.Test.YthgnipangcmanaaGreatZE1
import Derived.Test.YthgnipangcmanaaGreatZD1
import Derived.Test.YthgnipangcmanaaGreatZH2
import Derived.Test.YthgnipangcmanaaGreatZG1
import Derived.Test.YthgnipangcmanaaGreatProg
import Derived.Test.YthgnipangcmanaaGreatRows
import Derived.Test.YthgnipangcmanaaGreatZX1
import Derived.Handy
import Derived.StillTactics
import Derived.StillTailTactics
import Derived.Laws.MakeOwn
import Derived.Laws.Closers25b
section
namespace Hy.Pat
open Go
def wrt (l : List Nat) : List UInt8 × Nat := if 64 < l.length then ([], 2) else (bys l, 0)
theorem tl_at {w : Nat} {M : List Nat} {i x : Nat} (h : M[i]? = some x) (hx : w < Lib.bitLen x) : tl w 0 (M.take (i + 1)) = tl w 0 (M.take i) ++ ([UInt8.ofNat i] ++ Vary.wr x) := by
  have hi : i < M.length := (List.getElem?_eq_some_iff.1 h).1
  rw [take_succ_snoc' h, tl_snoc, if_pos hx, List.length_take, Nat.min_eq_left (by omega), Nat.zero_add]; rfl
theorem tl_no {w : Nat} {M : List Nat} {i x : Nat} (h : M[i]? = some x) (hx : ¬ w < Lib.bitLen x) : tl w 0 (M.take (i + 1)) = tl w 0 (M.take i) := by
  rw [take_succ_snoc' h, tl_snoc, if_neg hx, List.append_nil]
theorem cnt_at {w : Nat} {M : List Nat} {i x : Nat} (h : M[i]? = some x) (hx : w < Lib.bitLen x) : cnt w (M.take (i + 1)) = cnt w (M.take i) + 1 := by
  rw [take_succ_snoc' h, cnt_snoc, if_pos hx]
theorem cnt_no {w : Nat} {M : List Nat} {i x : Nat} (h : M[i]? = some x) (hx : ¬ w < Lib.bitLen x) : cnt w (M.take (i + 1)) = cnt w (M.take i) := by
  rw [take_succ_snoc' h, cnt_snoc, if_neg hx, Nat.add_zero]
theorem inn_at {w : Nat} {M : List Nat} {i x : Nat} (h : M[i]? = some x) (hx : w < Lib.bitLen x) : (inn w (M.take i) ++ M.drop i).set i 0 = inn w (M.take (i + 1)) ++ M.drop (i + 1) := by
  have hi : i < M.length := (List.getElem?_eq_some_iff.1 h).1
  have e : M[i] = x := (List.getElem?_eq_some_iff.1 h).2
  rw [List.set_append_right _ _ (by rw [inn_len, List.length_take]; omega), inn_len, List.length_take, Nat.min_eq_left (by omega), Nat.sub_self, List.drop_eq_getElem_cons hi, List.set_cons_zero, take_succ_snoc' h]
  unfold inn
  rw [List.map_append, List.append_assoc]
  simp [hx]
theorem inn_no {w : Nat} {M : List Nat} {i x : Nat} (h : M[i]? = some x) (hx : ¬ w < Lib.bitLen x) : inn w (M.take i) ++ M.drop i = inn w (M.take (i + 1)) ++ M.drop (i + 1) := by
  have hi : i < M.length := (List.getElem?_eq_some_iff.1 h).1
  have e : M[i] = x := (List.getElem?_eq_some_iff.1 h).2
  rw [List.drop_eq_getElem_cons hi, take_succ_snoc' h]
  unfold inn
  rw [List.map_append, List.append_assoc]
  simp [hx, e]
end Hy.Pat
namespace Go.Proofs.YthgnipangcmanaaGreat
open Go.RowKit Hy
set_option maxRecDepth 100000 in
set_option maxHeartbeats 6400000 in
theorem pWrite_any (l : List Nat) (A : Option Addr) (n cap : Nat) (w : World) (hn : l.length = n) (hr : Rd w A (u64s l)) (hl : ∀ x ∈ l, x < 18446744073709551616) (hnl : n ≤ 9223372036854775806) :
    Calls Tryz.prog 103 #[.slice A n cap] w fun e w' => e = .returned (.tuple #[.string ⟨(Pat.wrt l).1.toArray⟩, .int .i64 (Pat.wrt l).2]) ∧ Ext w w' := by
  unfold Pat.wrt
  have hnI : (n : Int) ≤ 9223372036854775806 := by omega
  by_cases h64 : 64 < n
  · rw [if_pos (by omega)]
    have h6I : 64 < (n : Int) := by omega
    clear hr hl hn hnl h64
    go_enter Tryz.func103, Tryz.ntmps103
    go_wp2
    go_returns
    exact ⟨rfl, ext_refl _⟩
  · rw [if_neg (by omega)]
    have HFD := hid (framed_any l A n cap w hn hr hl (by omega))
    have hbl := Pat.bas_lt l hl
    have hml := Pat.mor_lt l hl
    have hmn := Pat.mor_len l
    have hBY := Pat.bys_eq l
    obtain ⟨b, hb⟩ : ∃ b, b = Pat.bas l := ⟨_, rfl⟩
    obtain ⟨M, hM⟩ : ∃ M, M = Pat.mor l := ⟨_, rfl⟩
    rw [← hb] at HFD hbl
    rw [← hb, ← hM] at hBY
    rw [← hM] at HFD hml hmn
    rw [hn] at hmn
    have hwb := Pat.bst_le M 64
    have HBE := hid (fun (B : Option Addr) (c : Nat) (wx : World) (h : Rd wx B (u64s M)) => best_any M B n c b wx hmn h hml (by omega))
    obtain ⟨wd, hwd⟩ : ∃ wd, wd = Pat.bst M 64 := ⟨_, rfl⟩
    rw [← hwd] at hBY HBE hwb
    have HCL := hid (fun (B : Option Addr) (c : Nat) (wx : World) (h : Rd wx B (u64s M)) (hB : B = none → n = 0) => cloneN_any M B n c wx hmn h hB (by omega))
    have HOUT := hid (fun x (hx : x ∈ M) wx => out_any x wd wx (hml x hx))
    have HWR := hid (fun x (hx : x ∈ M) wx => write_any x wx (hml x hx))
    have HVB := hid (fun wx => write_any b wx hbl)
    have HRW := hid (fun (B : Option Addr) (c : Nat) (wx : World) (h : Rd wx B (u64s (Pat.inn wd M))) => braw_any (Pat.inn wd M) B n c wd wx (by rw [Pat.inn_len, hmn]) h (Pat.inn_lt wd M hwb hml) (by omega) hwb)
    have HMN := hid hmn
    have hwI : (wd : Int) ≤ 64 := by omega
    have hbI : (b : Int) ≤ 18446744073709551615 := by omega
    have hnI2 : (n : Int) ≤ 64 := by omega
    have HBY := hid hBY
    have HML := hid hml
    have HN64 := hid (show n ≤ 64 by omega)
    have HPL := hid (Bits.packed_len (Pat.inn wd M) wd)
    have HXL := hid (fun i => Pat.xt_le wd (M.take i))
    have HTLL := hid (fun i => Pat.tl_len wd (M.take i) 0)
    have HCNL := hid (fun i => Pat.cnt_le wd (M.take i))
    clear hn hr hl hnl hnI h64 hbl hml hmn hb hM hwb hwd hBY
    go_enter Tryz.func103, Tryz.ntmps103
    go_wp2_with fail
    refine Calls.mono HFD.out ?_
    rintro e w1 ⟨B, c, rfl, hrd, hx, _⟩
    have HBN := hid (show B = none → n = 0 from fun e => by
      rcases Nat.eq_zero_or_pos n with h | h
      · exact h
      · obtain ⟨b2, o2, e2, _⟩ := hrd (by rw [u64s_len, HMN.out]; exact h)
        rw [e] at e2; cases e2)
    have HRD1 := hid (hrd.keep ((ext_refl w1).new (.cells #[.int .u64 b, .slice B n c] 148)))
    have HX1 := hid (Ext.new hx (.cells #[.int .u64 b, .slice B n c] 148))
    have HB1 := hid (Blk.new w1 148 #[.int .u64 b, .slice B n c])
    clear hrd hx
    go_wp2_with fail
    refine Calls.mono (HBE.out B c _ HRD1.out) ?_
    rintro e w2 ⟨rfl, hx⟩
    have HRD2 := hid (HRD1.out.keep hx)
    have HX2 := hid (HX1.out.then hx)
    have hB2 := HB1.out.keep hx
    have HB2 := hid hB2
    have hc0 := hB2.cell 0
    have hc1 := hB2.cell 1
    clear hx hB2 HRD1 HX1 HB1
    go_wp2_with fail
    refine Calls.mono (HCL.out B c _ HRD2.out HBN.out) ?_
    rintro e w3 ⟨v, rfl, hown, hx⟩
    have HX3 := hid hx
    have HO3 := hid hown
    have hB3 := HB2.out.keep hx
    have hc0 := hB3.cell 0
    have hc1 := hB3.cell 1
    obtain ⟨V, cv, rfl, _⟩ := Rd.owned HO3.out
    clear hx hB3 hown
    go_wp2
    go_loopw [7, 8, 24] (fun t8 cq ix wr => ∃ i, i ≤ n ∧ ix = .int .i64 i ∧ t8 = .string ⟨(Pat.tl wd 0 (M.take i)).toArray⟩ ∧ cq = .int .i64 (Pat.cnt wd (M.take i) : Nat) ∧ Hid (wr.ownsRow w2.heap.size 34 1 (.slice V n cv) n (u64s (Pat.inn wd (M.take i) ++ M.drop i))) ∧ Hid (Ext w2 wr)) (fun _ _ ix _ => n - (intOf ix).toNat)
    case atStart => exact ⟨0, Nat.zero_le _, rfl, rfl, rfl, HO3, HX3⟩
    case round =>
      obtain ⟨i, hi, rfl, rfl, rfl, HO, HX⟩ := hrel
      have hc0 := (HB2.out.keep HX.out).cell 0
      by_cases hlt : i < n
      · have hltI : (i : Int) < (n : Int) := by omega
        obtain ⟨x, hx⟩ : ∃ x, M[i]? = some x := ⟨_, List.getElem?_eq_getElem (by rw [HMN.out]; exact hlt)⟩
        have hmem := List.mem_of_getElem? hx
        have hxl := HML.out x hmem
        have hxI : (x : Int) ≤ 18446744073709551615 := by omega
        obtain ⟨b1, o1, e1, l1, c1⟩ := (HRD2.out.keep HX.out).num00 (by rw [HMN.out]; omega)
        subst e1
        have d0 := c1 i x hx
        have CO := hid (HOUT.out x hmem)
        obtain ⟨XT, hXT⟩ : ∃ S : ByteArray, S = ⟨(Pat.tl wd 0 (M.take i)).toArray⟩ := ⟨_, rfl⟩
        have htll := HTLL.out i
        have hxtl := HXL.out i
        have hcl := HCNL.out i
        have htk : (M.take i).length ≤ n := by rw [List.length_take]; omega
        have hXs : XT.size ≤ 640 := by rw [hXT, str_size]; have := HN64.out; omega
        have hcI : ((Pat.cnt wd (M.take i) : Nat) : Int) ≤ 64 := by have := HN64.out; omega
        rw [← hXT]
        have HXT := hid hXT
        by_cases ho : wd < Lib.bitLen x
        · rw [decide_eq_true ho] at CO
          have HTL := hid (Pat.tl_at hx ho)
          have HCN := hid (Pat.cnt_at hx ho)
          have HIN := hid (show u64s (Pat.inn wd (M.take (i + 1)) ++ M.drop (i + 1)) = _ from congrArg u64s (Pat.inn_at hx ho).symm)
          rw [← u64s_set] at HIN
          have HV := hid (fun wx => HWR.out x hmem wx)
          have hvl := Vary.wr_len x
          have hv8 := Vary.beh_le8 x
          obtain ⟨g3, c3, hv3, hbg, hg3, cur, hb3⟩ := own_base HO.out (by omega)
          cases hv3
          have f0 := HO.out.frozenAt i
          have d3 := HO.out.cellAt i (by omega)
          have hd3 : (u64s (Pat.inn wd (M.take i) ++ M.drop i))[i]? = some (.int .u64 (x : Int)) := by
            unfold u64s
            rw [List.getElem?_map, List.getElem?_append_right (by rw [Pat.inn_len, List.length_take]; omega), Pat.inn_len, List.length_take, Nat.min_eq_left (by rw [HMN.out]; omega), Nat.sub_self, List.getElem?_drop, Nat.add_zero, hx]; rfl
          rw [hd3] at d3
          obtain ⟨X2b, hX2b⟩ : ∃ S : ByteArray, S = ⟨[UInt8.ofNat i].toArray⟩ := ⟨_, rfl⟩
          obtain ⟨X3b, hX3b⟩ : ∃ S : ByteArray, S = ⟨(Vary.wr x).toArray⟩ := ⟨_, rfl⟩
          rw [← hX3b] at HV
          have hz2 : X2b.size = 1 := by rw [hX2b]; rfl
          have hz3 : X3b.size ≤ 9 := by rw [hX3b, str_size]; omega
          have HX2 := hid hX2b
          have HX3 := hid hX3b
          have HWB := hid (show (#[Value.int .u8 (i : Int)] : Array Value).toList = u8s [UInt8.ofNat i] by simp [u8s]; have := HN64.out; omega)
          have hiu : IntKind.u8.wrap (i : Int) = (i : Int) := by rw [IntKind.wrap_u8]; have := HN64.out; omega
          have hown5 := own_set HO.out rfl i (.int .u64 0)
          clear hx hmem hxl c1 hXT htll hxtl hcl htk hX2b hX3b hvl hv8 hb3 hg3 hbg ho hd3
          generalize Pat.cnt wd (M.take i) = q at *
          go_wp2_with fail
          refine Calls.mono (CO.out _) ?_
          rintro e _ ⟨rfl, rfl⟩
          go_wp2
          refine wp_gen (fun w' => w'.ownsRow w2.heap.size 34 1 (.slice (some ⟨g3, 0, none⟩) n cv) n ((u64s (Pat.inn wd (M.take i) ++ M.drop i)).set i (.int .u64 0)) ∧ Ext w2 w') ⟨hown5, HX.out.put (p := ⟨g3, i, none⟩) (HO.out.lt g3 rfl).1 _⟩ ?_
          rintro w5 ⟨ho5, hx5⟩
          have HO5 := hid ho5
          have HX5 := hid hx5
          clear hown5 ho5 hx5 hc0 d0 f0 d3
          refine wp_region_tree (.one 0 true (.one 1 true (.one 2 true (.one 5 true (.two 3 6 (.two 4 6 (.one 6 false (.one 7 true (.one 8 true (.one 9 true (.nil))))) (.one 4 false (.one 7 true (.one 8 true (.one 9 true (.nil)))))) (.one 3 false (.one 4 false (.one 7 true (.one 8 true (.one 9 true (.nil))))))))))) (by kernel_rfl) (by kernel_rfl) (fun _ _ _ _ _ h => h) (by kernel_rfl) (by rfl) ?_
          simp only [fillT, List.getD_cons_zero, List.getD_cons_succ]
          have Y0 : Ext w5 w5.drew := (ext_refl w5).draw
          generalize w5.drew = y0 at Y0 ⊢
          repeat (refine wpTO_val (by rfl) ?_; intro K hK; go_big_quiet_op; go_big_quiet_on)
          refine wpTO_two ?_ ?_
          · refine wpTO_do (by rfl) ?_
            intro K hK
            go_simp
            have HRB := rd_lit (w := y0) (g := (y0 : World).heap.size) (C := #[.int .u8 (i : Int)]) (e := 5) (fz := (0, 0)) (cs := u8s [UInt8.ofNat i]) rfl HWB.out
            have Y1 := Ext.new Y0 (.cells #[.int .u8 (i : Int)] 5)
            refine hK _ _ Y1 ?_
            clear K hK
            refine wpTO_two ?_ ?_
            · refine wpTO_do (by rfl) ?_
              intro K hK
              have hcv := run_str_rd (P := Tryz.prog) (src := 42) (dst := 9) (e := 5) Tryz.underlying42 Tryz.underlying5 Tryz.underlying9 _ 1 1 [UInt8.ofNat i] rfl HRB (fun h => by cases h)
              rw [← HX2.out] at hcv
              go_simp
              refine hK _ _ Y1 ?_
              clear K hK hcv
              refine wpTO_do (by rfl) ?_
              intro K hK
              go_simp
              refine Calls.mono (HV.out _) ?_
              rintro e y2 ⟨rfl, hx⟩
              have Y2 := Ext.then Y1 hx
              replace HRB := Rd.keep HRB hx
              refine hK _ _ Y2 ?_
              clear K hK hx
              repeat (refine wpTO_val (by rfl) ?_; intro K hK; go_big_quiet_op; go_big_quiet_on)
              refine wpTO_nil ?_
              have XE := hid (HX5.out.then Y2)
              have XO := hid (own_ext HO5.out Y2)
              clear HO5 HX5 hc1
              go_wp2
              go_roundw
              case rel => exact ⟨i + 1, by omega, by go_num, by rw [HTL.out, HXT.out, HX2.out, HX3.out, str_app, str_app], by rw [HCN.out]; rfl, hid (by rw [HIN.out]; exact XO.out), XE⟩
              case measure => simp [intOf]; omega
            · refine wpTO_do (by rfl) ?_
              intro K hK
              go_simp
              refine Calls.mono (HV.out _) ?_
              rintro e y3 ⟨rfl, hx⟩
              have Y3 := Ext.then Y1 hx
              replace HRB := Rd.keep HRB hx
              refine hK _ _ Y3 ?_
              clear K hK hx
              refine wpTO_do (by rfl) ?_
              intro K hK
              have hcv := run_str_rd (P := Tryz.prog) (src := 42) (dst := 9) (e := 5) Tryz.underlying42 Tryz.underlying5 Tryz.underlying9 _ 1 1 [UInt8.ofNat i] rfl HRB (fun h => by cases h)
              rw [← HX2.out] at hcv
              go_simp
              refine hK _ _ Y3 ?_
              clear K hK hcv
              repeat (refine wpTO_val (by rfl) ?_; intro K hK; go_big_quiet_op; go_big_quiet_on)
              refine wpTO_nil ?_
              have XE := hid (HX5.out.then Y3)
              have XO := hid (own_ext HO5.out Y3)
              clear HO5 HX5 hc1
              go_wp2
              go_roundw
              case rel => exact ⟨i + 1, by omega, by go_num, by rw [HTL.out, HXT.out, HX2.out, HX3.out, str_app, str_app], by rw [HCN.out]; rfl, hid (by rw [HIN.out]; exact XO.out), XE⟩
              case measure => simp [intOf]; omega
          · refine wpTO_do (by rfl) ?_
            intro K hK
            go_simp
            refine Calls.mono (HV.out _) ?_
            rintro e y4 ⟨rfl, hx⟩
            have Y4 := Ext.then Y0 hx
            refine hK _ _ Y4 ?_
            clear K hK hx
            refine wpTO_do (by rfl) ?_
            intro K hK
            go_simp
            have HRB := rd_lit (w := y4) (g := (y4 : World).heap.size) (C := #[.int .u8 (i : Int)]) (e := 5) (fz := (0, 0)) (cs := u8s [UInt8.ofNat i]) rfl HWB.out
            have Y5 := Ext.new Y4 (.cells #[.int .u8 (i : Int)] 5)
            refine hK _ _ Y5 ?_
            clear K hK
            refine wpTO_do (by rfl) ?_
            intro K hK
            have hcv := run_str_rd (P := Tryz.prog) (src := 42) (dst := 9) (e := 5) Tryz.underlying42 Tryz.underlying5 Tryz.underlying9 _ 1 1 [UInt8.ofNat i] rfl HRB (fun h => by cases h)
            rw [← HX2.out] at hcv
            go_simp
            refine hK _ _ Y5 ?_
            clear K hK hcv
            repeat (refine wpTO_val (by rfl) ?_; intro K hK; go_big_quiet_op; go_big_quiet_on)
            refine wpTO_nil ?_
            have XE := hid (HX5.out.then Y5)
            have XO := hid (own_ext HO5.out Y5)
            clear HO5 HX5 hc1
            go_wp2
            go_roundw
            case rel => exact ⟨i + 1, by omega, by go_num, by rw [HTL.out, HXT.out, HX2.out, HX3.out, str_app, str_app], by rw [HCN.out]; rfl, hid (by rw [HIN.out]; exact XO.out), XE⟩
            case measure => simp [intOf]; omega
        · rw [decide_eq_false ho] at CO
          have HTL := hid (Pat.tl_no hx ho)
          have HCN := hid (Pat.cnt_no hx ho)
          have HIN := hid (congrArg u64s (Pat.inn_no hx ho))
          clear hx hmem hxl c1 hXT htll hxtl hcl htk ho
          go_wp2_with fail
          refine Calls.mono (CO.out _) ?_
          rintro e _ ⟨rfl, rfl⟩
          go_wp2
          go_roundw
          case rel => exact ⟨i + 1, by omega, by go_num, by rw [HTL.out, HXT.out], by rw [HCN.out], hid (by rw [← HIN.out]; exact HO.out), HX⟩
          case measure => simp [intOf]; omega
      · obtain rfl : i = n := by omega
        have htk : M.take i = M := List.take_of_length_le (by rw [HMN.out]; exact Nat.le_refl _)
        have hdr : M.drop i = [] := List.drop_eq_nil_of_le (by rw [HMN.out]; exact Nat.le_refl _)
        rw [htk, hdr, List.append_nil] at HO
        have htll := HTLL.out i
        have hxtl := HXL.out i
        have hcl := HCNL.out i
        rw [htk] at htll hxtl hcl ⊢
        rw [HMN.out] at hxtl hcl
        have HRAW := hid (fun wx (hx : Ext wr wx) => HRW.out V cv wx (by obtain ⟨_, _, e, hrd, _⟩ := Rd.owned HO.out; cases e; exact hrd.keep hx))
        obtain ⟨q, hq⟩ : ∃ q, q = Pat.cnt wd M := ⟨_, rfl⟩
        rw [← hq] at hcl ⊢
        have hqI : (q : Int) ≤ 64 := by have := HN64.out; omega
        obtain ⟨X1b, hX1b⟩ : ∃ S : ByteArray, S = ⟨(Vary.wr b).toArray⟩ := ⟨_, rfl⟩
        obtain ⟨X2b, hX2b⟩ : ∃ S : ByteArray, S = ⟨[UInt8.ofNat wd, UInt8.ofNat q].toArray⟩ := ⟨_, rfl⟩
        obtain ⟨X3b, hX3b⟩ : ∃ S : ByteArray, S = ⟨(Bits.packed (Pat.inn wd M) wd).toArray⟩ := ⟨_, rfl⟩
        obtain ⟨X4b, hX4b⟩ : ∃ S : ByteArray, S = ⟨(Pat.tl wd 0 M).toArray⟩ := ⟨_, rfl⟩
        have hz1 : X1b.size ≤ 9 := by rw [hX1b, str_size, Vary.wr_len]; have := Vary.beh_le8 b; omega
        have hz2 : X2b.size = 2 := by rw [hX2b]; rfl
        have hz3 : X3b.size ≤ 1000 := by
          rw [hX3b, str_size, HPL.out, Pat.inn_len, HMN.out]
          have h1 := HN64.out
          have h2 : i * wd ≤ 64 * 64 := Nat.mul_le_mul h1 (by omega)
          unfold Bits.size; omega
        have hz4 : X4b.size ≤ 640 := by rw [hX4b, str_size]; have := HN64.out; omega
        have HRES := hid (show (⟨(Pat.bys l).toArray⟩ : ByteArray) = X1b ++ X2b ++ X3b ++ X4b by rw [HBY.out, hX1b, hX2b, hX3b, hX4b, str_app, str_app, str_app, hq])
        rw [← hX1b] at HVB
        rw [← hX3b] at HRAW
        rw [← hX4b]
        have HEB := hid hX2b
        have HWB := hid (show (#[Value.int .u8 (wd : Int), Value.int .u8 (q : Int)] : Array Value).toList = u8s [UInt8.ofNat wd, UInt8.ofNat q] by
          have h1 : wd % 256 = wd := by omega
          have h2 : q % 256 = q := by omega
          simp [u8s, h1, h2])
        have hwu : IntKind.u8.wrap (wd : Int) = (wd : Int) := by rw [IntKind.wrap_u8]; omega
        have hqu : IntKind.u8.wrap (q : Int) = (q : Int) := by rw [IntKind.wrap_u8]; omega
        have d0r := cell_regrown hc0
        clear htk hdr htll hxtl hcl hq hX1b hX2b hX3b hX4b
        go_wp2
        refine wp_region_tree (.one 0 true (.one 1 true (.one 3 true (.one 4 true (.one 5 true (.one 6 true (.one 10 true (.one 11 true (.one 14 true (.two 2 7 (.two 7 12 (.two 8 12 (.one 9 true (.one 12 false (.one 13 true (.one 15 true (.one 16 true (.one 17 true (.nil))))))) (.one 8 false (.one 9 true (.one 13 true (.one 15 true (.one 16 true (.one 17 true (.nil)))))))) (.one 7 false (.one 8 false (.one 9 true (.one 13 true (.one 15 true (.one 16 true (.one 17 true (.nil))))))))) (.two 2 8 (.two 8 12 (.one 9 true (.one 12 false (.one 13 true (.one 15 true (.one 16 true (.one 17 true (.nil))))))) (.one 8 false (.one 9 true (.one 13 true (.one 15 true (.one 16 true (.one 17 true (.nil)))))))) (.one 2 false (.one 9 true (.one 12 false (.one 13 true (.one 15 true (.one 16 true (.one 17 true (.nil))))))))))))))))))) (by kernel_rfl) (by kernel_rfl) (fun _ _ _ _ _ h => h) (by kernel_rfl) (by rfl) ?_
        simp only [fillT, List.getD_cons_zero, List.getD_cons_succ]
        have Y0 : Ext wr wr.drew := (ext_refl wr).draw
        generalize wr.drew = y0 at Y0 ⊢
        repeat (refine wpTO_val (by rfl) ?_; intro K hK; go_big_quiet_op; go_big_quiet_on)
        refine wpTO_two ?_ ?_
        · refine wpTO_do (by rfl) ?_
          intro K hK
          go_simp
          refine Calls.mono (HVB.out _) ?_
          rintro e y1 ⟨rfl, hx⟩
          have Y1 := Ext.then Y0 hx
          refine hK _ _ Y1 ?_
          clear K hK hx
          refine wpTO_two ?_ ?_
          · refine wpTO_do (by rfl) ?_
            intro K hK
            go_simp
            have HRB := rd_lit (w := y1) (g := (y1 : World).heap.size) (C := #[.int .u8 (wd : Int), .int .u8 (q : Int)]) (e := 5) (fz := (0, 0)) (cs := u8s [UInt8.ofNat wd, UInt8.ofNat q]) rfl HWB.out
            have Y2 := Ext.new Y1 (.cells #[.int .u8 (wd : Int), .int .u8 (q : Int)] 5)
            refine hK _ _ Y2 ?_
            clear K hK
            refine wpTO_two ?_ ?_
            · refine wpTO_do (by rfl) ?_
              intro K hK
              have hcv := run_str_rd (P := Tryz.prog) (src := 42) (dst := 9) (e := 5) Tryz.underlying42 Tryz.underlying5 Tryz.underlying9 _ 2 2 [UInt8.ofNat wd, UInt8.ofNat q] rfl HRB (fun h => by cases h)
              rw [← HEB.out] at hcv
              go_simp
              refine hK _ _ Y2 ?_
              clear K hK hcv
              repeat (refine wpTO_val (by rfl) ?_; intro K hK; go_big_quiet_op; go_big_quiet_on)
              refine wpTO_do (by rfl) ?_
              intro K hK
              go_simp
              refine Calls.mono (HRAW.out _ Y2) ?_
              rintro e y3 ⟨rfl, hx⟩
              have Y3 := Ext.then Y2 hx
              replace HRB := Rd.keep HRB hx
              refine hK _ _ Y3 ?_
              clear K hK hx
              repeat (refine wpTO_val (by rfl) ?_; intro K hK; go_big_quiet_op; go_big_quiet_on)
              refine wpTO_nil ?_
              have XE := hid (HX2.out.then (HX.out.then Y3))
              go_wp2
              go_returns
              exact ⟨by rw [HRES.out]; rfl, XE.out⟩
            · refine wpTO_do (by rfl) ?_
              intro K hK
              go_simp
              refine Calls.mono (HRAW.out _ Y2) ?_
              rintro e y4 ⟨rfl, hx⟩
              have Y4 := Ext.then Y2 hx
              replace HRB := Rd.keep HRB hx
              refine hK _ _ Y4 ?_
              clear K hK hx
              refine wpTO_do (by rfl) ?_
              intro K hK
              have hcv := run_str_rd (P := Tryz.prog) (src := 42) (dst := 9) (e := 5) Tryz.underlying42 Tryz.underlying5 Tryz.underlying9 _ 2 2 [UInt8.ofNat wd, UInt8.ofNat q] rfl HRB (fun h => by cases h)
              rw [← HEB.out] at hcv
              go_simp
              refine hK _ _ Y4 ?_
              clear K hK hcv
              repeat (refine wpTO_val (by rfl) ?_; intro K hK; go_big_quiet_op; go_big_quiet_on)
              refine wpTO_nil ?_
              have XE := hid (HX2.out.then (HX.out.then Y4))
              go_wp2
              go_returns
              exact ⟨by rw [HRES.out]; rfl, XE.out⟩
          · refine wpTO_do (by rfl) ?_
            intro K hK
            go_simp
            refine Calls.mono (HRAW.out _ Y1) ?_
            rintro e y5 ⟨rfl, hx⟩
            have Y5 := Ext.then Y1 hx
            refine hK _ _ Y5 ?_
            clear K hK hx
            refine wpTO_do (by rfl) ?_
            intro K hK
            go_simp
            have HRB := rd_lit (w := y5) (g := (y5 : World).heap.size) (C := #[.int .u8 (wd : Int), .int .u8 (q : Int)]) (e := 5) (fz := (0, 0)) (cs := u8s [UInt8.ofNat wd, UInt8.ofNat q]) rfl HWB.out
            have Y6 := Ext.new Y5 (.cells #[.int .u8 (wd : Int), .int .u8 (q : Int)] 5)
            refine hK _ _ Y6 ?_
            clear K hK
            refine wpTO_do (by rfl) ?_
            intro K hK
            have hcv := run_str_rd (P := Tryz.prog) (src := 42) (dst := 9) (e := 5) Tryz.underlying42 Tryz.underlying5 Tryz.underlying9 _ 2 2 [UInt8.ofNat wd, UInt8.ofNat q] rfl HRB (fun h => by cases h)
            rw [← HEB.out] at hcv
            go_simp
            refine hK _ _ Y6 ?_
            clear K hK hcv
            repeat (refine wpTO_val (by rfl) ?_; intro K hK; go_big_quiet_op; go_big_quiet_on)
            refine wpTO_nil ?_
            have XE := hid (HX2.out.then (HX.out.then Y6))
            go_wp2
            go_returns
            exact ⟨by rw [HRES.out]; rfl, XE.out⟩
        · refine wpTO_do (by rfl) ?_
          intro K hK
          go_simp
          have HRB := rd_lit (w := y0) (g := (y0 : World).heap.size) (C := #[.int .u8 (wd : Int), .int .u8 (q : Int)]) (e := 5) (fz := (0, 0)) (cs := u8s [UInt8.ofNat wd, UInt8.ofNat q]) rfl HWB.out
          have Y7 := Ext.new Y0 (.cells #[.int .u8 (wd : Int), .int .u8 (q : Int)] 5)
          refine hK _ _ Y7 ?_
          clear K hK
          refine wpTO_two ?_ ?_
          · refine wpTO_do (by rfl) ?_
            intro K hK
            go_simp
            refine Calls.mono (HVB.out _) ?_
            rintro e y8 ⟨rfl, hx⟩
            have Y8 := Ext.then Y7 hx
            replace HRB := Rd.keep HRB hx
            refine hK _ _ Y8 ?_
            clear K hK hx
            refine wpTO_two ?_ ?_
            · refine wpTO_do (by rfl) ?_
              intro K hK
              have hcv := run_str_rd (P := Tryz.prog) (src := 42) (dst := 9) (e := 5) Tryz.underlying42 Tryz.underlying5 Tryz.underlying9 _ 2 2 [UInt8.ofNat wd, UInt8.ofNat q] rfl HRB (fun h => by cases h)
              rw [← HEB.out] at hcv
              go_simp
              refine hK _ _ Y8 ?_
              clear K hK hcv
              repeat (refine wpTO_val (by rfl) ?_; intro K hK; go_big_quiet_op; go_big_quiet_on)
              refine wpTO_do (by rfl) ?_
              intro K hK
              go_simp
              refine Calls.mono (HRAW.out _ Y8) ?_
              rintro e y9 ⟨rfl, hx⟩
              have Y9 := Ext.then Y8 hx
              replace HRB := Rd.keep HRB hx
              refine hK _ _ Y9 ?_
              clear K hK hx
              repeat (refine wpTO_val (by rfl) ?_; intro K hK; go_big_quiet_op; go_big_quiet_on)
              refine wpTO_nil ?_
              have XE := hid (HX2.out.then (HX.out.then Y9))
              go_wp2
              go_returns
              exact ⟨by rw [HRES.out]; rfl, XE.out⟩
            · refine wpTO_do (by rfl) ?_
              intro K hK
              go_simp
              refine Calls.mono (HRAW.out _ Y8) ?_
              rintro e y10 ⟨rfl, hx⟩
              have Y10 := Ext.then Y8 hx
              replace HRB := Rd.keep HRB hx
              refine hK _ _ Y10 ?_
              clear K hK hx
              refine wpTO_do (by rfl) ?_
              intro K hK
              have hcv := run_str_rd (P := Tryz.prog) (src := 42) (dst := 9) (e := 5) Tryz.underlying42 Tryz.underlying5 Tryz.underlying9 _ 2 2 [UInt8.ofNat wd, UInt8.ofNat q] rfl HRB (fun h => by cases h)
              rw [← HEB.out] at hcv
              go_simp
              refine hK _ _ Y10 ?_
              clear K hK hcv
              repeat (refine wpTO_val (by rfl) ?_; intro K hK; go_big_quiet_op; go_big_quiet_on)
              refine wpTO_nil ?_
              have XE := hid (HX2.out.then (HX.out.then Y10))
              go_wp2
              go_returns
              exact ⟨by rw [HRES.out]; rfl, XE.out⟩
          · refine wpTO_do (by rfl) ?_
            intro K hK
            have hcv := run_str_rd (P := Tryz.prog) (src := 42) (dst := 9) (e := 5) Tryz.underlying42 Tryz.underlying5 Tryz.underlying9 _ 2 2 [UInt8.ofNat wd, UInt8.ofNat q] rfl HRB (fun h => by cases h)
            rw [← HEB.out] at hcv
            go_simp
            refine hK _ _ Y7 ?_
            clear K hK hcv
            refine wpTO_do (by rfl) ?_
            intro K hK
            go_simp
            refine Calls.mono (HVB.out _) ?_
            rintro e y11 ⟨rfl, hx⟩
            have Y11 := Ext.then Y7 hx
            replace HRB := Rd.keep HRB hx
            refine hK _ _ Y11 ?_
            clear K hK hx
            repeat (refine wpTO_val (by rfl) ?_; intro K hK; go_big_quiet_op; go_big_quiet_on)
            refine wpTO_do (by rfl) ?_
            intro K hK
            go_simp
            refine Calls.mono (HRAW.out _ Y11) ?_
            rintro e y12 ⟨rfl, hx⟩
            have Y12 := Ext.then Y11 hx
            replace HRB := Rd.keep HRB hx
            refine hK _ _ Y12 ?_
            clear K hK hx
            repeat (refine wpTO_val (by rfl) ?_; intro K hK; go_big_quiet_op; go_big_quiet_on)
            refine wpTO_nil ?_
            have XE := hid (HX2.out.then (HX.out.then Y12))
            go_wp2
            go_returns
            exact ⟨by rw [HRES.out]; rfl, XE.out⟩
end Go.Proofs.YthgnipangcmanaaGreat
end
section
namespace Hy.Cod
open Go
abbrev Tx := List UInt8
@[irreducible] def nm (l : List Nat) (way : Nat) : Tx :=
  if way = 1 then UInt8.ofNat (Bits.width l) :: Bits.packed l (Bits.width l)
  else if way = 2 then UInt8.ofNat (Bits.width l) :: Hyb.raw l (Bits.width l)
  else if way = 3 then Dlt.bys l else Pat.bys l
theorem nm1 (l : List Nat) : nm l 1 = UInt8.ofNat (Bits.width l) :: Bits.packed l (Bits.width l) := by unfold nm; rfl
theorem nm2 (l : List Nat) : nm l 2 = UInt8.ofNat (Bits.width l) :: Hyb.raw l (Bits.width l) := by unfold nm; rfl
theorem nm3 (l : List Nat) : nm l 3 = Dlt.bys l := by unfold nm; rfl
theorem nm4 (l : List Nat) : nm l 4 = Pat.bys l := by unfold nm; rfl
theorem width_fit (l : List Nat) (hl : ∀ x ∈ l, x < 18446744073709551616) : Bits.width l ≤ 64 ∧ ∀ x ∈ l, x < 2 ^ Bits.width l :=
  have h := Bits.width_le64 l hl
  ⟨h, (Bits.width_le_iff l _ hl h).1 (Nat.le_refl _)⟩
theorem size_b (n w : Nat) (hn : n ≤ 64) (hw : w ≤ 64) : Bits.size n w ≤ 512 := by
  unfold Bits.size
  have : n * w ≤ 64 * 64 := Nat.mul_le_mul hn hw
  omega
theorem raw_b (l : List Nat) (w : Nat) (hw : w ≤ 64) (hn : l.length ≤ 64) : (Hyb.raw l w).length ≤ 600 := by
  have h1 := Hyb.raw_len l w hw hn
  have h2 := size_b l.length w hn hw
  omega
theorem nm_len (l : List Nat) (way : Nat) (hn : l.length ≤ 64) (hl : ∀ x ∈ l, x < 18446744073709551616) : (nm l way).length ≤ 2000 := by
  obtain ⟨h1, h2⟩ := width_fit l hl
  unfold nm
  split
  · rw [List.length_cons, Bits.packed_len]
    have := size_b l.length _ hn h1
    omega
  · split
    · rw [List.length_cons]
      have := raw_b l _ h1 hn
      omega
    · split
      · cases l with
        | nil => rw [Dlt.bys_nil]; simp
        | cons x r =>
          rw [Dlt.bys_cons, List.length_append, List.length_append, Vary.wr_len]
          have h3 := Vary.beh_le8 x
          have h4 := (width_fit _ (Dlt.zs_lt (x :: r))).1
          have h5 := raw_b (Dlt.zs (x :: r)) _ h4 (by rw [Dlt.zs_len]; omega)
          simp only [List.length_cons, List.length_nil]
          omega
      · rw [Pat.bys_len, Vary.wr_len]
        have h3 := Vary.beh_le8 (Pat.bas l)
        have h4 := Pat.xt_le (Pat.bst (Pat.mor l) 64) (Pat.mor l)
        have h5 := size_b (Pat.mor l).length (Pat.bst (Pat.mor l) 64) (by rw [Pat.mor_len]; exact hn) (Pat.bst_le _ _)
        rw [Pat.mor_len] at h4 h5
        unfold Pat.cst
        rw [Pat.mor_len]
        omega
def lw (n : Nat) : Nat := if n = 0 then 0 else Lib.bitLen (n - 1)
theorem lw_zero : lw 0 = 0 := rfl
theorem lw_pos {n : Nat} (h : 0 < n) : lw n = Lib.bitLen (n - 1) := by unfold lw; rw [if_neg (by omega)]
theorem lw_width {n : Nat} (h : 0 < n) : lw n = Bits.width [n - 1] := by rw [lw_pos h]; simp [Bits.width]
theorem lw_le {n : Nat} (h : n ≤ 65) : lw n ≤ 7 := by
  unfold lw
  split
  · omega
  · rw [Bits.bitLen_le_iff _ _ (by omega) (by decide)]; omega
theorem lw_fit {n : Nat} (hn : n ≤ 65) (x : Nat) (h : x < n) : x < 2 ^ lw n := by
  rw [lw_pos (by omega)]
  have h1 : n - 1 < 2 ^ Lib.bitLen (n - 1) := (Bits.bitLen_le_iff _ _ (by omega) (by rw [← lw_pos (by omega)]; have := lw_le hn; omega)).1 (Nat.le_refl _)
  omega
@[irreducible] def pln (l : List Tx) : Tx := l.flatMap fun s => Vary.wr s.length ++ s
theorem pln_nil : pln [] = [] := by unfold pln; rfl
theorem pln_cons (s : Tx) (l : List Tx) : pln (s :: l) = Vary.wr s.length ++ s ++ pln l := by unfold pln; simp
theorem pln_snoc (l : List Tx) (s : Tx) : pln (l ++ [s]) = pln l ++ Vary.wr s.length ++ s := by unfold pln; simp
theorem pln_len (l : List Tx) (hl : ∀ s ∈ l, s.length ≤ 16) : (pln l).length ≤ 25 * l.length := by
  induction l with
  | nil => rw [pln_nil]; simp
  | cons s l ih =>
    have h1 := ih (fun t ht => hl t (by simp [ht]))
    have h2 := hl s (by simp)
    have h3 := Vary.beh_le8 s.length
    rw [pln_cons, List.length_append, List.length_append, Vary.wr_len, List.length_cons]
    omega
@[irreducible] def bok (l : List Tx) : Tx := Vary.wr (Dct.bk l).length ++ Bits.packed (Dct.cds l) (lw (Dct.bk l).length) ++ Front.bytes (Dct.bk l)
theorem bok_eq (l : List Tx) : bok l = Vary.wr (Dct.bk l).length ++ Bits.packed (Dct.cds l) (lw (Dct.bk l).length) ++ Front.bytes (Dct.bk l) := by unfold bok; rfl
theorem enc_len (l : List Tx) : ∀ last : Tx, (∀ s ∈ l, s.length ≤ 16) → (Front.enc last l).length ≤ 18 * l.length := by
  induction l with
  | nil => intro last _; simp [Front.enc]
  | cons s l ih =>
    intro last h
    have h1 := ih s (fun t ht => h t (by simp [ht]))
    have h2 := h s (by simp)
    have h3 := Front.one_len last s h2
    rw [Front.enc, List.length_append, List.length_cons]
    omega
theorem bytes_len (l : List Tx) (hl : ∀ s ∈ l, s.length ≤ 16) : (Front.bytes l).length ≤ 18 * l.length := by rw [Front.bytes_eq]; exact enc_len l [] hl
theorem bk_fit (l : List Tx) (hl : ∀ s ∈ l, s.length ≤ 16) : ∀ s ∈ Dct.bk l, s.length ≤ 16 := fun s hs => hl s (((Dct.bk_spec l).2 s).1 hs)
theorem cds_fit (l : List Tx) (hn : l.length ≤ 64) : ∀ x ∈ Dct.cds l, x < 2 ^ lw (Dct.bk l).length := fun x hx =>
  lw_fit (by have := Dct.bk_len l; omega) x (Dct.cds_lt l x hx)
theorem bok_len (l : List Tx) (hn : l.length ≤ 64) (hl : ∀ s ∈ l, s.length ≤ 16) : (bok l).length ≤ 1700 := by
  have h1 := Dct.bk_len l
  have h2 := bytes_len (Dct.bk l) (bk_fit l hl)
  have h3 := Vary.beh_le8 (Dct.bk l).length
  have h4 := lw_le (n := (Dct.bk l).length) (by omega)
  have h5 := size_b l.length (lw (Dct.bk l).length) hn (by omega)
  rw [bok_eq, List.length_append, List.length_append, Vary.wr_len, Bits.packed_len, Dct.cds_len]
  omega
@[irreducible] def tx (l : List Tx) (way : Nat) : Tx := if way = 5 then pln l else if way = 6 then bok l else Front.bytes l
theorem tx5 (l : List Tx) : tx l 5 = pln l := by unfold tx; rfl
theorem tx6 (l : List Tx) : tx l 6 = bok l := by unfold tx; rfl
theorem tx7 (l : List Tx) : tx l 7 = Front.bytes l := by unfold tx; rfl
theorem tx_len (l : List Tx) (way : Nat) (hn : l.length ≤ 64) (hl : ∀ s ∈ l, s.length ≤ 16) : (tx l way).length ≤ 2000 := by
  unfold tx
  split
  · have := pln_len l hl; omega
  · split
    · have := bok_len l hn hl; omega
    · have := bytes_len l hl; omega
def tg (f : Nat → Tx) (way : Nat) : Tx := UInt8.ofNat way :: f way
theorem tg_len (f : Nat → Tx) (way : Nat) : (tg f way).length = (f way).length + 1 := rfl
def up (f : Nat → Tx) (a : Nat) : Nat → Tx
  | 0 => tg f a
  | k + 1 => if (tg f (a + k + 1)).length < (up f a k).length then tg f (a + k + 1) else up f a k
theorem up_zero (f : Nat → Tx) (a : Nat) : up f a 0 = tg f a := rfl
theorem up_succ (f : Nat → Tx) (a k : Nat) : up f a (k + 1) = if (tg f (a + k + 1)).length < (up f a k).length then tg f (a + k + 1) else up f a k := rfl
theorem up_one (f : Nat → Tx) (a k : Nat) : ∃ j, j ≤ k ∧ up f a k = tg f (a + j) := by
  induction k with
  | zero => exact ⟨0, Nat.le_refl _, rfl⟩
  | succ k ih =>
    obtain ⟨j, hj, e⟩ := ih
    rw [up_succ]
    split
    · exact ⟨k + 1, Nat.le_refl _, rfl⟩
    · exact ⟨j, by omega, e⟩
def down (f : Nat → Tx) (a : Nat) : Nat → Tx
  | 0 => tg f a
  | k + 1 => if (tg f (a - k - 1)).length ≤ (down f a k).length then tg f (a - k - 1) else down f a k
theorem down_zero (f : Nat → Tx) (a : Nat) : down f a 0 = tg f a := rfl
theorem down_succ (f : Nat → Tx) (a k : Nat) : down f a (k + 1) = if (tg f (a - k - 1)).length ≤ (down f a k).length then tg f (a - k - 1) else down f a k := rfl
theorem down4 (f : Nat → Tx) : down f 4 3 = up f 1 3 := by
  simp only [down, up, Nat.reduceSub, Nat.reduceAdd, ← Nat.not_lt]
  rcases Classical.em ((tg f 2).length < (tg f 1).length) with c12 | c12 <;>
  rcases Classical.em ((tg f 3).length < (tg f 1).length) with c13 | c13 <;>
  rcases Classical.em ((tg f 4).length < (tg f 1).length) with c14 | c14 <;>
  rcases Classical.em ((tg f 3).length < (tg f 2).length) with c23 | c23 <;>
  rcases Classical.em ((tg f 4).length < (tg f 2).length) with c24 | c24 <;>
  rcases Classical.em ((tg f 4).length < (tg f 3).length) with c34 | c34 <;>
  first | (exfalso; omega) | (simp only [*, if_true, if_false, not_true_eq_false, not_false_eq_true])
theorem down7 (f : Nat → Tx) : down f 7 2 = up f 5 2 := by
  simp only [down, up, Nat.reduceSub, Nat.reduceAdd, ← Nat.not_lt]
  rcases Classical.em ((tg f 6).length < (tg f 5).length) with c56 | c56 <;>
  rcases Classical.em ((tg f 7).length < (tg f 5).length) with c57 | c57 <;>
  rcases Classical.em ((tg f 7).length < (tg f 6).length) with c67 | c67 <;>
  first | (exfalso; omega) | (simp only [*, if_true, if_false, not_true_eq_false, not_false_eq_true])
theorem up_len (f : Nat → Tx) (a k m : Nat) (h : ∀ j, (f j).length ≤ m) : (up f a k).length ≤ m + 1 := by
  obtain ⟨j, _, e⟩ := up_one f a k
  rw [e, tg_len]
  have := h (a + j)
  omega
theorem down_len (f : Nat → Tx) (a k m : Nat) (h : ∀ j, (f j).length ≤ m) : (down f a k).length ≤ m + 1 := by
  induction k with
  | zero => rw [down_zero, tg_len]; have := h a; omega
  | succ k ih =>
    rw [down_succ]
    split
    · rw [tg_len]; have := h (a - k - 1); omega
    · exact ih
def nmb (l : List Nat) (way : Int) : Tx × Nat := if ¬ (1 ≤ way ∧ way ≤ 4) then ([], 7) else if 64 < l.length then ([], 2) else (tg (nm l) way.toNat, 0)
def bnm (l : List Nat) : Tx × Nat := if 64 < l.length then ([], 2) else (up (nm l) 1 3, 0)
def btx (l : List Tx) : Tx × Nat := if Dct.mny l = true then ([], 2) else (up (tx l) 5 2, 0)
/-! ### reading -/
@[irreducible] def wde (rd : Tx → Nat → List Nat × Nat) (s : Tx) : List Nat × Nat := match s with
  | [] => ([], 5)
  | c :: t => if (rd t c.toNat).2 ≠ 0 then ([], (rd t c.toNat).2) else if Bits.width (rd t c.toNat).1 ≠ c.toNat then ([], 1) else ((rd t c.toNat).1, 0)
section
variable {rd : Tx → Nat → List Nat × Nat} {c : UInt8} {t : Tx}
theorem wde_nil : wde rd [] = ([], 5) := by unfold wde; rfl
theorem wde_bad (h : (rd t c.toNat).2 ≠ 0) : wde rd (c :: t) = ([], (rd t c.toNat).2) := by unfold wde; simp only; rw [if_pos h]
theorem wde_form (h : (rd t c.toNat).2 = 0) (h2 : Bits.width (rd t c.toNat).1 ≠ c.toNat) : wde rd (c :: t) = ([], 1) := by unfold wde; simp only; rw [if_neg (by omega), if_pos h2]
theorem wde_ok (h : (rd t c.toNat).2 = 0) (h2 : Bits.width (rd t c.toNat).1 = c.toNat) : wde rd (c :: t) = ((rd t c.toNat).1, 0) := by unfold wde; simp only; rw [if_neg (by omega), if_neg (by omega)]
end
def rpk (many : Int) (t : Tx) (w : Nat) : List Nat × Nat := (Bits.up t many w, Bits.chk t many w)
def rhy (many : Int) (t : Tx) (w : Nat) : List Nat × Nat := Hyb.rdl t many w
@[irreducible] def rnm (s : Tx) (many : Int) : List Nat × Nat :=
  if many < 0 then ([], 3) else if 64 < many then ([], 2) else match s with
  | [] => ([], 5)
  | c :: t => if c.toNat = 1 then wde (rpk many) t else if c.toNat = 2 then wde (rhy many) t else if c.toNat = 3 then Dlt.rds t many else if c.toNat = 4 then Pat.rdP t many else ([], 7)
section
variable {s : Tx} {many : Int} {c : UInt8} {t : Tx}
theorem rnm_neg (h : many < 0) : rnm s many = ([], 3) := by unfold rnm; rw [if_pos h]
theorem rnm_many (h : 64 < many) : rnm s many = ([], 2) := by unfold rnm; rw [if_neg (by omega), if_pos h]
theorem rnm_nil (h : 0 ≤ many) (h2 : many ≤ 64) : rnm [] many = ([], 5) := by unfold rnm; rw [if_neg (by omega), if_neg (by omega)]
theorem rnm_cons (h : 0 ≤ many) (h2 : many ≤ 64) : rnm (c :: t) many = if c.toNat = 1 then wde (rpk many) t else if c.toNat = 2 then wde (rhy many) t else if c.toNat = 3 then Dlt.rds t many else if c.toNat = 4 then Pat.rdP t many else ([], 7) := by unfold rnm; rw [if_neg (by omega), if_neg (by omega)]
end
@[irreducible] def one (s : Tx) : Tx × Tx × Nat :=
  if (Vary.rd s).2.2 ≠ 0 then ([], [], (Vary.rd s).2.2) else if 16 < (Vary.rd s).1 then ([], [], 2) else if (s.drop (Vary.rd s).2.1).length < (Vary.rd s).1 then ([], [], 5)
  else ((s.drop (Vary.rd s).2.1).take (Vary.rd s).1, (s.drop (Vary.rd s).2.1).drop (Vary.rd s).1, 0)
section
variable {s : Tx} {n k e : Nat}
theorem one_bad (h : Vary.rd s = (n, k, e)) (he : e ≠ 0) : one s = ([], [], e) := by unfold one; rw [h, if_pos he]
theorem one_many (h : Vary.rd s = (n, k, 0)) (h2 : 16 < n) : one s = ([], [], 2) := by unfold one; rw [h, if_neg (by simp), if_pos h2]
theorem one_none (h : Vary.rd s = (n, k, 0)) (h2 : ¬ 16 < n) (h3 : (s.drop k).length < n) : one s = ([], [], 5) := by unfold one; rw [h, if_neg (by simp), if_neg h2, if_pos h3]
theorem one_ok (h : Vary.rd s = (n, k, 0)) (h2 : ¬ 16 < n) (h3 : ¬ (s.drop k).length < n) : one s = ((s.drop k).take n, (s.drop k).drop n, 0) := by unfold one; rw [h, if_neg (by simp), if_neg h2, if_neg h3]
end
def rpl : Nat → Tx → List Tx → List Tx × Nat
  | 0, s, o => if s = [] then (o, 0) else ([], 1)
  | q + 1, s, o => if (one s).2.2 ≠ 0 then ([], (one s).2.2) else rpl q (one s).2.1 (o ++ [(one s).1])
theorem rpl_bad {q : Nat} {s t r : Tx} {o : List Tx} {e : Nat} (h : one s = (t, r, e)) (he : e ≠ 0) : rpl (q + 1) s o = ([], e) := by simp [rpl, h, he]
theorem rpl_ok {q : Nat} {s t r : Tx} {o : List Tx} (h : one s = (t, r, 0)) : rpl (q + 1) s o = rpl q r (o ++ [t]) := by simp [rpl, h]
theorem one_txt (s r : Tx) (hs : s.length ≤ 16) : one (Vary.wr s.length ++ s ++ r) = (s, r, 0) := by
  have h1 : Vary.rd (Vary.wr s.length ++ s ++ r) = (s.length, Vary.beh s.length + 1, 0) := by rw [List.append_assoc]; exact Vary.rd_wr _ _ (by omega)
  have h2 : (Vary.wr s.length ++ s ++ r).drop (Vary.beh s.length + 1) = s ++ r := by rw [List.append_assoc]; exact List.drop_left' (Vary.wr_len _)
  rw [one_ok h1 (by omega) (by rw [h2, List.length_append]; omega), h2, List.take_left' rfl, List.drop_left' rfl]
theorem rpl_pln (l : List Tx) : ∀ (o : List Tx), (∀ s ∈ l, s.length ≤ 16) → rpl l.length (pln l) o = (o ++ l, 0) := by
  induction l with
  | nil => intro o _; rw [pln_nil]; simp [rpl]
  | cons s l ih =>
    intro o h
    rw [List.length_cons, pln_cons, rpl_ok (one_txt s (pln l) (h s (by simp))), ih _ (fun t ht => h t (by simp [ht]))]
    simp
@[irreducible] def rbk (s : Tx) (many : Nat) : List Tx × Nat :=
  if (Vary.rd s).2.2 ≠ 0 then ([], (Vary.rd s).2.2) else if 64 < (Vary.rd s).1 then ([], 2)
  else if (s.drop (Vary.rd s).2.1).length < Bits.size many (lw (Vary.rd s).1) then ([], 5)
  else if Bits.chk ((s.drop (Vary.rd s).2.1).take (Bits.size many (lw (Vary.rd s).1))) many (lw (Vary.rd s).1) ≠ 0 then ([], Bits.chk ((s.drop (Vary.rd s).2.1).take (Bits.size many (lw (Vary.rd s).1))) many (lw (Vary.rd s).1))
  else if (Front.rdl ((s.drop (Vary.rd s).2.1).drop (Bits.size many (lw (Vary.rd s).1))) (Vary.rd s).1).2 ≠ 0 then ([], (Front.rdl ((s.drop (Vary.rd s).2.1).drop (Bits.size many (lw (Vary.rd s).1))) (Vary.rd s).1).2)
  else Dct.txt (Front.rdl ((s.drop (Vary.rd s).2.1).drop (Bits.size many (lw (Vary.rd s).1))) (Vary.rd s).1).1 (Bits.up ((s.drop (Vary.rd s).2.1).take (Bits.size many (lw (Vary.rd s).1))) many (lw (Vary.rd s).1))
section
variable {s r : Tx} {n k e many z : Nat}
theorem rbk_vary (h : Vary.rd s = (n, k, e)) (he : e ≠ 0) : rbk s many = ([], e) := by unfold rbk; rw [h, if_pos he]
theorem rbk_many (h : Vary.rd s = (n, k, 0)) (h2 : 64 < n) : rbk s many = ([], 2) := by unfold rbk; rw [h, if_neg (by simp), if_pos h2]
theorem rbk_none (h : Vary.rd s = (n, k, 0)) (h2 : ¬ 64 < n) (hr : s.drop k = r) (hz : Bits.size many (lw n) = z) (h3 : r.length < z) : rbk s many = ([], 5) := by unfold rbk; rw [h, if_neg (by simp), if_neg h2]; simp only [hr, hz]; rw [if_pos h3]
theorem rbk_chk (h : Vary.rd s = (n, k, 0)) (h2 : ¬ 64 < n) (hr : s.drop k = r) (hz : Bits.size many (lw n) = z) (h3 : ¬ r.length < z) (h4 : Bits.chk (r.take z) many (lw n) ≠ 0) : rbk s many = ([], Bits.chk (r.take z) many (lw n)) := by
  unfold rbk; rw [h, if_neg (by simp), if_neg h2]; simp only [hr, hz]; rw [if_neg h3, if_pos h4]
theorem rbk_front (h : Vary.rd s = (n, k, 0)) (h2 : ¬ 64 < n) (hr : s.drop k = r) (hz : Bits.size many (lw n) = z) (h3 : ¬ r.length < z) (h4 : Bits.chk (r.take z) many (lw n) = 0) (h5 : (Front.rdl (r.drop z) n).2 ≠ 0) : rbk s many = ([], (Front.rdl (r.drop z) n).2) := by
  unfold rbk; rw [h, if_neg (by simp), if_neg h2]; simp only [hr, hz]; rw [if_neg h3, if_neg (fun x => x h4), if_pos h5]
theorem rbk_ok (h : Vary.rd s = (n, k, 0)) (h2 : ¬ 64 < n) (hr : s.drop k = r) (hz : Bits.size many (lw n) = z) (h3 : ¬ r.length < z) (h4 : Bits.chk (r.take z) many (lw n) = 0) (h5 : (Front.rdl (r.drop z) n).2 = 0) : rbk s many = Dct.txt (Front.rdl (r.drop z) n).1 (Bits.up (r.take z) many (lw n)) := by
  unfold rbk; rw [h, if_neg (by simp), if_neg h2]; simp only [hr, hz]; rw [if_neg h3, if_neg (fun x => x h4), if_neg (fun x => x h5)]
end
@[irreducible] def rtx (s : Tx) (many : Int) : List Tx × Nat :=
  if many < 0 then ([], 3) else if 64 < many then ([], 2) else match s with
  | [] => ([], 5)
  | c :: t => if c.toNat = 5 then rpl many.toNat t [] else if c.toNat = 6 then rbk t many.toNat else if c.toNat = 7 then Front.rdl t many else ([], 7)
section
variable {s : Tx} {many : Int} {c : UInt8} {t : Tx}
theorem rtx_neg (h : many < 0) : rtx s many = ([], 3) := by unfold rtx; rw [if_pos h]
theorem rtx_many (h : 64 < many) : rtx s many = ([], 2) := by unfold rtx; rw [if_neg (by omega), if_pos h]
theorem rtx_nil (h : 0 ≤ many) (h2 : many ≤ 64) : rtx [] many = ([], 5) := by unfold rtx; rw [if_neg (by omega), if_neg (by omega)]
theorem rtx_cons (h : 0 ≤ many) (h2 : many ≤ 64) : rtx (c :: t) many = if c.toNat = 5 then rpl many.toNat t [] else if c.toNat = 6 then rbk t many.toNat else if c.toNat = 7 then Front.rdl t many else ([], 7) := by unfold rtx; rw [if_neg (by omega), if_neg (by omega)]
end
end Hy.Cod
end
section
namespace Hy.Adler
def ad (p : Nat × Nat) (l : List UInt8) : Nat × Nat :=
  l.foldl (fun p b => ((p.1 + b.toNat) % 65521, (p.2 + (p.1 + b.toNat)) % 65521)) p
def halves (c : Nat) : Nat × Nat := (c % 65536 % 65521, c / 65536 % 65521)
def sum (p : Nat × Nat) : Nat := p.2 % 65521 * 65536 + p.1 % 65521
def more (c : Nat) (l : List UInt8) : Nat := sum (ad (halves c) l)
theorem ad_lt (p : Nat × Nat) (l : List UInt8) (h1 : p.1 < 65521) (h2 : p.2 < 65521) : (ad p l).1 < 65521 ∧ (ad p l).2 < 65521 := by
  induction l generalizing p with
  | nil => exact ⟨h1, h2⟩
  | cons b l ih => exact ih _ (Nat.mod_lt _ (by decide)) (Nat.mod_lt _ (by decide))
theorem ad_snoc (p : Nat × Nat) (l : List UInt8) (b : UInt8) : ad p (l ++ [b]) = (((ad p l).1 + b.toNat) % 65521, ((ad p l).2 + ((ad p l).1 + b.toNat)) % 65521) := by simp [ad]
theorem halves_lt (c : Nat) : (halves c).1 < 65521 ∧ (halves c).2 < 65521 := ⟨Nat.mod_lt _ (by decide), Nat.mod_lt _ (by decide)⟩
theorem sum_lt (p : Nat × Nat) : sum p < 4294967296 := by unfold sum; omega
def lo (c : Int) : Int := c % 65536 % 65521
def up (c : Int) : Int := c / 65536 % 65521
theorem lo_nat (c : Nat) : lo (c : Int) = ((halves c).1 : Nat) := by unfold lo halves; omega
theorem up_nat (c : Nat) : up (c : Int) = ((halves c).2 : Nat) := by unfold up halves; omega
def rolled (c n x y : Int) : Int :=
  (up c + 16773376 - n % 65521 * x % 65521 + (lo c + 65521 - x + y) % 65521 + 65520) % 65521 * 65536 + (lo c + 65521 - x + y) % 65521
def rv (c n x y : Int) : Int := if n < 1 ∨ 2147483647 < n then 0 else rolled c n x y
theorem mul_bd (n z K : Int) (h0 : 0 ≤ n) (h1 : n ≤ K) (hz0 : 0 ≤ z) (hz1 : z ≤ 65520) (hK : K ≤ 2147483647) : 0 ≤ n * z ∧ n * z ≤ 140703128551440 := by
  refine ⟨Int.mul_nonneg h0 hz0, ?_⟩
  have : n * z ≤ 2147483647 * 65520 := Int.mul_le_mul (by omega) hz1 hz0 (by decide)
  omega
def tot : List UInt8 → Nat | [] => 0 | b :: l => b.toNat + tot l
def wt : Nat → List UInt8 → Nat | _, [] => 0 | n, b :: l => n % 65521 * b.toNat + wt (n - 1) l
theorem tot_snoc (l : List UInt8) (b : UInt8) : tot (l ++ [b]) = tot l + b.toNat := by
  induction l with
  | nil => simp [tot]
  | cons a l ih => simp only [List.cons_append, tot, ih]; omega
theorem tot_le (l : List UInt8) : tot l ≤ 255 * l.length := by
  induction l with
  | nil => simp [tot]
  | cons a l ih => have := a.toNat_lt; simp only [tot, List.length_cons]; omega
theorem wt_snoc (n : Nat) (l : List UInt8) (b : UInt8) : wt n (l ++ [b]) = wt n l + (n - l.length) % 65521 * b.toNat := by
  induction l generalizing n with
  | nil => simp [wt]
  | cons a l ih =>
    simp only [List.cons_append, wt, ih, List.length_cons]
    rw [show n - 1 - l.length = n - (l.length + 1) from by omega]; omega
theorem natmul (U a z : Nat) : (U + a % 65521 * z) % 65521 = (U + a * z) % 65521 := by
  conv => lhs; rw [Nat.add_mod, Nat.mul_mod, Nat.mod_mod, ← Nat.mul_mod, ← Nat.add_mod]
theorem natmul' (U a z : Nat) : (U + a * (z % 65521)) % 65521 = (U + a * z) % 65521 := by
  conv => lhs; rw [Nat.add_mod, Nat.mul_mod, Nat.mod_mod, ← Nat.mul_mod, ← Nat.add_mod]
theorem ad_fst (p : Nat × Nat) (l : List UInt8) (h1 : p.1 < 65521) : (ad p l).1 = (p.1 + tot l) % 65521 := by
  induction l generalizing p with
  | nil => simp [ad, tot]; omega
  | cons b l ih =>
    have := ih ((p.1 + b.toNat) % 65521, (p.2 + (p.1 + b.toNat)) % 65521) (Nat.mod_lt _ (by decide))
    show (ad _ l).1 = _
    rw [this, tot]; simp only; omega
theorem ad_snd (p : Nat × Nat) (l : List UInt8) (h2 : p.2 < 65521) : (ad p l).2 = (p.2 + l.length * p.1 + wt l.length l) % 65521 := by
  induction l generalizing p with
  | nil => simp [ad, wt]; omega
  | cons b l ih =>
    have := ih ((p.1 + b.toNat) % 65521, (p.2 + (p.1 + b.toNat)) % 65521) (Nat.mod_lt _ (by decide))
    show (ad _ l).2 = _
    rw [this, wt]; simp only [List.length_cons, Nat.add_sub_cancel]
    have e1 : (p.2 + (p.1 + b.toNat)) % 65521 + l.length * ((p.1 + b.toNat) % 65521) + wt l.length l = ((p.2 + (p.1 + b.toNat)) % 65521 + wt l.length l) + l.length * ((p.1 + b.toNat) % 65521) := by omega
    have e2 : p.2 + (l.length + 1) * p.1 + ((l.length + 1) % 65521 * b.toNat + wt l.length l) = (p.2 + (l.length + 1) * p.1 + wt l.length l) + (l.length + 1) % 65521 * b.toNat := by omega
    rw [e1, natmul', e2, natmul]
    have e3 : (l.length + 1) * p.1 = l.length * p.1 + p.1 := Nat.succ_mul _ _
    have e4 : (l.length + 1) * b.toNat = l.length * b.toNat + b.toNat := Nat.succ_mul _ _
    have e5 : l.length * (p.1 + b.toNat) = l.length * p.1 + l.length * b.toNat := Nat.mul_add _ _ _
    rw [e3, e4, e5]; omega
theorem more_wt (c u : Nat) (l : List UInt8) (hu : u % 65521 = ((halves c).2 + l.length % 65521 * (halves c).1 + wt l.length l) % 65521) :
    u % 65521 * 65536 + ((halves c).1 + tot l) % 65521 = more c l := by
  have hl := halves_lt c
  have e1 := ad_fst (halves c) l hl.1
  have e2 := ad_snd (halves c) l hl.2
  have e3 : (halves c).2 + l.length % 65521 * (halves c).1 + wt l.length l = ((halves c).2 + wt l.length l) + l.length % 65521 * (halves c).1 := by omega
  have e4 : (halves c).2 + l.length * (halves c).1 + wt l.length l = ((halves c).2 + wt l.length l) + l.length * (halves c).1 := by omega
  rw [e3, natmul, ← e4, ← e2] at hu
  unfold more sum
  rw [e1, hu]; omega
end Hy.Adler
namespace Hy.Adler
theorem fst1 (l : List UInt8) : (ad (halves 1) l).1 = (1 + tot l) % 65521 := ad_fst _ l (by decide)
theorem sum_inj (p q : Nat × Nat) (h : sum p = sum q) : p.1 % 65521 = q.1 % 65521 ∧ p.2 % 65521 = q.2 % 65521 := by
  unfold sum at h; omega
theorem more_byte (x y : List UInt8) (b c : UInt8) : (more 1 (x ++ [b] ++ y) = more 1 (x ++ [c] ++ y)) ↔ b = c := by
  constructor
  · intro h
    have h1 := (sum_inj _ _ h).1
    rw [fst1, fst1] at h1
    have e : ∀ l m, tot (l ++ m) = tot l + tot m := fun l m => by
      induction l with
      | nil => simp [tot]
      | cons a l ih => simp only [List.cons_append, tot, ih]; omega
    rw [e, e, e, e] at h1
    simp only [tot] at h1
    have hb := b.toNat_lt
    have hc := c.toNat_lt
    apply UInt8.toNat_inj.1; omega
  · rintro rfl; rfl
end Hy.Adler
end
section
namespace Go.Proofs.YthgnipangcmanaaGreat
open Go.RowKit Hy
theorem cel_neq (a a' : Int) (b b' : Nat) (s s' : ByteArray) (w : World) :
    (binOp .neq 48 (.agg #[.int .i64 a, .int .u64 (b : Int), .string s]) (.agg #[.int .i64 a', .int .u64 (b' : Int), .string s'])).run Tryz.prog w = .ok (.bool (!decide (((a, b, s) : Cel) = (a', b', s')))) w := by
  have hs : (s.toList = s'.toList) ↔ s = s' := by
    rw [ByteArray.toList_eq, ByteArray.toList_eq]
    exact ⟨fun h => ByteArray.ext (Array.ext' h), fun h => by rw [h]⟩
  go_simp
  simp only [Int.natCast_inj]
  by_cases h1 : a = a' <;> by_cases h2 : b = b' <;> by_cases h3 : s = s' <;> simp [h1, h2, h3]
end Go.Proofs.YthgnipangcmanaaGreat
end
section
namespace Go.Proofs.YthgnipangcmanaaGreat
open Go.RowKit Hy
set_option maxHeartbeats 400000 in
theorem sameCells_any (a b : List Cel) (A B : Option Addr) (n m ca cb : Nat) (w : World) (hn : a.length = n) (hm : b.length = m) (ha : Rd w A (cls a)) (hb : Rd w B (cls b)) (hnl : n ≤ 140737488355328) :
    Calls Tryz.prog 14 #[.slice A n ca, .slice B m cb] w fun e w' => e = .returned (.bool (decide (a = b))) ∧ Ext w w' := by
  by_cases hl : n = m
  · subst hl
    by_cases h0 : n = 0
    · have e1 := List.eq_nil_of_length_eq_zero (hn.trans h0)
      have e2 := List.eq_nil_of_length_eq_zero (hm.trans h0)
      subst e1 e2 h0
      go_enter Tryz.func14, Tryz.ntmps14
      go_wp2
      refine wp_loop_rounds 1 ?_
      rw [rounds_succ]
      go_wp2
      go_returns
      exact ⟨rfl, ext_refl _⟩
    · obtain ⟨b1, o1, rfl, l1, c1⟩ := ha.cels 0 (by omega)
      obtain ⟨b2, o2, rfl, l2, c2⟩ := hb.cels 0 (by omega)
      have C1 := hid c1
      have C2 := hid c2
      have HN := hid hn
      have HM := hid hm
      clear c1 c2 ha hb hn hm
      go_enter Tryz.func14, Tryz.ntmps14
      go_wp2
      go_loopw [5] (fun i wr => ∃ k : Nat, k ≤ n ∧ i = .int .i64 k ∧ a.take k = b.take k ∧ Ext w wr) (fun i _ => n - (intOf i).toNat)
      case atStart => exact ⟨0, Nat.zero_le _, rfl, rfl, ext_refl _⟩
      case round =>
        obtain ⟨k, hk, rfl, ht, X⟩ := hrel
        have HT := hid ht
        clear ht
        by_cases hlt : k < n
        · have q1 := C1.out k (by rw [HN.out]; exact hlt)
          have q2 := C2.out k (by rw [HM.out]; exact hlt)
          have d1 := (X.cell (p := ⟨b1, o1 + k * 3, none⟩) l1).trans q1.1
          have d2 := (X.cell (p := ⟨b1, o1 + k * 3 + 1, none⟩) l1).trans q1.2.1
          have d3 := (X.cell (p := ⟨b1, o1 + k * 3 + 2, none⟩) l1).trans q1.2.2
          have d4 := (X.cell (p := ⟨b2, o2 + k * 3, none⟩) l2).trans q2.1
          have d5 := (X.cell (p := ⟨b2, o2 + k * 3 + 1, none⟩) l2).trans q2.2.1
          have d6 := (X.cell (p := ⟨b2, o2 + k * 3 + 2, none⟩) l2).trans q2.2.2
          clear q1 q2
          have HE := hid (take_step a b k (by rw [HN.out]; exact hlt) (by rw [HM.out]; exact hlt) HT.out)
          have HD := hid (show a[k]'(by rw [HN.out]; exact hlt) ≠ b[k]'(by rw [HM.out]; exact hlt) → decide (a = b) = false from fun h => by rw [decide_eq_false_iff_not]; rintro rfl; exact h rfl)
          generalize a[k]'(by rw [HN.out]; exact hlt) = x at *
          generalize b[k]'(by rw [HM.out]; exact hlt) = y at *
          obtain ⟨xk, xn, xs⟩ := x
          obtain ⟨yk, yn, ys⟩ := y
          simp only at d1 d2 d3 d4 d5 d6
          by_cases hxy : ((xk, xn, xs) : Cel) = (yk, yn, ys)
          · have HXY := hid hxy
            simp only [Prod.mk.injEq] at hxy
            obtain ⟨rfl, rfl, rfl⟩ := hxy
            go_wp2_with fail
            go_quiet (fail)
            go_wp2
            go_roundw
            case rel => exact ⟨k + 1, by omega, by go_num, HE.out (by trivial), X.draws _⟩
            case measure => simp [intOf]; omega
          · have hq := fun w => cel_neq xk yk xn yn xs ys w
            simp only [hxy, decide_false, Bool.not_false] at hq
            have HXY := hid hxy
            clear hxy
            go_wp2_with fail
            go_quiet (fail)
            go_wp2
            go_returns
            exact ⟨by rw [HD.out HXY.out]; rfl, X.draws _⟩
        · obtain rfl : k = n := by omega
          go_wp2
          go_returns
          refine ⟨?_, X⟩
          have := HT.out
          rw [List.take_of_length_le (by rw [HN.out]; exact Nat.le_refl _), List.take_of_length_le (by rw [HM.out]; exact Nat.le_refl _)] at this
          subst this
          simp
  · have hf : decide (a = b) = false := by rw [decide_eq_false_iff_not]; rintro rfl; omega
    have h3 : ((n : Int) == (m : Int)) = false := by rw [beq_eq_false_iff_ne]; omega
    have h4 : ((n : Int) != (m : Int)) = true := by rw [bne_iff_ne]; omega
    have HF := hid hf
    clear hf hn hm
    go_enter Tryz.func14, Tryz.ntmps14
    go_wp2
    go_returns
    exact ⟨by rw [HF.out]; rfl, ext_refl _⟩
end Go.Proofs.YthgnipangcmanaaGreat
end
section
namespace Hy.Pop
def pb : Nat → Nat → Nat
  | 0, _ => 0
  | k + 1, x => x % 2 + pb k (x / 2)
theorem pb_le : ∀ k x, pb k x ≤ k
  | 0, _ => Nat.le_refl _
  | k + 1, x => by have := pb_le k (x / 2); unfold pb; omega
theorem pb_zero : ∀ k, pb k 0 = 0
  | 0 => rfl
  | k + 1 => by unfold pb; rw [Nat.zero_div, pb_zero k]
theorem pb_split : ∀ (m k x : Nat), pb (m + k) x = pb m (x % 2 ^ m) + pb k (x / 2 ^ m)
  | 0, k, x => by simp [pb]
  | m + 1, k, x => by
    rw [show m + 1 + k = (m + k) + 1 by omega]
    show x % 2 + pb (m + k) (x / 2) = (x % 2 ^ (m + 1) % 2 + pb m (x % 2 ^ (m + 1) / 2)) + pb k (x / 2 ^ (m + 1))
    rw [pb_split m k (x / 2)]
    have e1 : x % 2 ^ (m + 1) % 2 = x % 2 := by
      rw [Nat.pow_succ, Nat.mod_mul_left_mod]
    have e2 : x % 2 ^ (m + 1) / 2 = x / 2 % 2 ^ m := by
      rw [show 2 ^ (m + 1) = 2 * 2 ^ m from by rw [Nat.pow_succ, Nat.mul_comm], Nat.mod_mul_right_div_self]
    have e3 : x / 2 / 2 ^ m = x / 2 ^ (m + 1) := by rw [Nat.div_div_eq_div_mul, Nat.pow_succ, Nat.mul_comm]
    rw [e1, e2, e3]
    omega
def word : List Bool → Nat
  | [] => 0
  | b :: l => b.toNat + 2 * word l
theorem word_lt : ∀ l : List Bool, word l < 2 ^ l.length
  | [] => by simp [word]
  | b :: l => by
    have := word_lt l
    have hb : b.toNat ≤ 1 := by cases b <;> decide
    simp only [word, List.length_cons, Nat.pow_succ]; omega
theorem word_snoc : ∀ (l : List Bool) (b : Bool), word (l ++ [b]) = word l + b.toNat * 2 ^ l.length
  | [], b => by simp [word]
  | c :: l, b => by
    simp only [List.cons_append, word, word_snoc l b, List.length_cons, Nat.pow_succ]
    have : b.toNat * (2 ^ l.length * 2) = 2 * (b.toNat * 2 ^ l.length) := by rw [← Nat.mul_assoc, Nat.mul_comm]
    rw [this, Nat.mul_add]; omega
theorem pb_word : ∀ (l : List Bool) (k : Nat), l.length ≤ k → pb k (word l) = l.count true
  | [], k, _ => by simp [word, pb_zero]
  | b :: l, 0, h => by simp at h
  | b :: l, k + 1, h => by
    have e1 : word (b :: l) % 2 = b.toNat := by cases b <;> simp [word] <;> omega
    have e2 : word (b :: l) / 2 = word l := by cases b <;> simp [word] <;> omega
    unfold pb
    rw [e1, e2, pb_word l k (by simpa using h)]
    cases b <;> simp [Nat.add_comm]
def rep (c : Nat) : Nat → Nat
  | 0 => 0
  | n + 1 => c + 256 * rep c n
theorem and_cat (a b c d : Nat) (ha : a < 256) (hc : c < 256) : (a + 256 * b) &&& (c + 256 * d) = (a &&& c) + 256 * (b &&& d) := by
  have h1 : ((a + 256 * b) &&& (c + 256 * d)) % 2 ^ 8 = a &&& c := by
    rw [Nat.and_mod_two_pow, show (a + 256 * b) % 2 ^ 8 = a from by omega, show (c + 256 * d) % 2 ^ 8 = c from by omega]
  have h2 : ((a + 256 * b) &&& (c + 256 * d)) / 2 ^ 8 = b &&& d := by
    rw [← Nat.shiftRight_eq_div_pow, Nat.shiftRight_and_distrib, Nat.shiftRight_eq_div_pow, Nat.shiftRight_eq_div_pow, show (a + 256 * b) / 2 ^ 8 = b from by omega, show (c + 256 * d) / 2 ^ 8 = d from by omega]
  have := Nat.div_add_mod ((a + 256 * b) &&& (c + 256 * d)) (2 ^ 8)
  rw [h1, h2] at this
  omega
def s1 (n x : Nat) : Nat := ((x / 2) &&& rep 85 n) + (x &&& rep 85 n)
def s2 (n x : Nat) : Nat := ((x / 4) &&& rep 51 n) + (x &&& rep 51 n)
def s3 (n x : Nat) : Nat := (x / 16 + x) &&& rep 15 n
def t1 (a : Nat) : Nat := ((a / 2) &&& 85) + (a &&& 85)
def t2 (a : Nat) : Nat := ((a / 4) &&& 51) + (a &&& 51)
theorem t1_dec : ∀ a, a < 256 → (∀ e, e < 2 → (a / 2 + 128 * e) &&& 85 = (a / 2) &&& 85) ∧ t1 a < 256 := by decide +kernel
theorem t2_dec : ∀ a, a < 256 → (∀ e, e < 4 → (a / 4 + 64 * e) &&& 51 = (a / 4) &&& 51) := by decide +kernel
theorem t12_dec : ∀ a, a < 256 → t2 (t1 a) / 16 ≤ 4 ∧ t2 (t1 a) % 16 ≤ 4 ∧ t2 (t1 a) < 256 ∧ (∀ e, e < 5 → (t2 (t1 a) / 16 + t2 (t1 a) + 16 * e) < 256 ∧ (t2 (t1 a) / 16 + t2 (t1 a) + 16 * e) &&& 15 = pb 8 a) := by decide +kernel
theorem s1_cat (n a b : Nat) (ha : a < 256) : s1 (n + 1) (a + 256 * b) = t1 a + 256 * s1 n b := by
  show (((a + 256 * b) / 2) &&& (85 + 256 * rep 85 n)) + ((a + 256 * b) &&& (85 + 256 * rep 85 n)) = t1 a + 256 * s1 n b
  have e : (a + 256 * b) / 2 = (a / 2 + 128 * (b % 2)) + 256 * (b / 2) := by omega
  rw [e, and_cat _ _ _ _ (by omega) (by decide), and_cat _ _ _ _ ha (by decide), (t1_dec a ha).1 (b % 2) (by omega)]
  unfold t1 s1; omega
theorem s2_cat (n a b : Nat) (ha : a < 256) : s2 (n + 1) (a + 256 * b) = t2 a + 256 * s2 n b := by
  show (((a + 256 * b) / 4) &&& (51 + 256 * rep 51 n)) + ((a + 256 * b) &&& (51 + 256 * rep 51 n)) = t2 a + 256 * s2 n b
  have e : (a + 256 * b) / 4 = (a / 4 + 64 * (b % 4)) + 256 * (b / 4) := by omega
  rw [e, and_cat _ _ _ _ (by omega) (by decide), and_cat _ _ _ _ ha (by decide), t2_dec a ha (b % 4) (by omega)]
  unfold t2 s2; omega
def sums : Nat → Nat → Nat
  | 0, _ => 0
  | n + 1, x => pb 8 (x % 256) + 256 * sums n (x / 256)
theorem low_nib (n b : Nat) : s2 n (s1 n b) % 16 ≤ 4 := by
  cases n with
  | zero => simp [s2, s1, rep]
  | succ n =>
    have e : b = b % 256 + 256 * (b / 256) := by omega
    rw [e, s1_cat _ _ _ (by omega), s2_cat _ _ _ (t1_dec _ (by omega)).2]
    have := (t12_dec (b % 256) (by omega)).2.1
    omega
theorem s123 : ∀ (n x : Nat), s3 n (s2 n (s1 n x)) = sums n x
  | 0, x => by simp [s3, s2, s1, rep, sums]
  | n + 1, x => by
    have e : x = x % 256 + 256 * (x / 256) := by omega
    have ha : x % 256 < 256 := by omega
    have h := s123 n (x / 256)
    have hn := low_nib n (x / 256)
    obtain ⟨d1, d2, d3, d4⟩ := t12_dec (x % 256) ha
    unfold sums
    rw [e, s1_cat _ _ _ ha, s2_cat _ _ _ (t1_dec _ ha).2, ← e]
    unfold s3 at h ⊢
    obtain ⟨y, hy⟩ : ∃ y, y = s2 n (s1 n (x / 256)) := ⟨_, rfl⟩
    obtain ⟨z, hz⟩ : ∃ z, z = t2 (t1 (x % 256)) := ⟨_, rfl⟩
    rw [← hy] at h hn ⊢
    rw [← hz] at d1 d2 d3 d4 ⊢
    obtain ⟨d5, d6⟩ := d4 (y % 16) (by omega)
    have e2 : (z + 256 * y) / 16 + (z + 256 * y) = (z / 16 + z + 16 * (y % 16)) + 256 * (y / 16 + y) := by omega
    rw [e2]
    show _ &&& (15 + 256 * rep 15 n) = _
    rw [and_cat _ _ _ _ d5 (by decide), d6, h]
theorem sums8 (x : Nat) : ∃ p0 p1 p2 p3 p4 p5 p6 p7, (p0 ≤ 8 ∧ p1 ≤ 8 ∧ p2 ≤ 8 ∧ p3 ≤ 8 ∧ p4 ≤ 8 ∧ p5 ≤ 8 ∧ p6 ≤ 8 ∧ p7 ≤ 8) ∧
    sums 8 x = p0 + 256 * (p1 + 256 * (p2 + 256 * (p3 + 256 * (p4 + 256 * (p5 + 256 * (p6 + 256 * p7)))))) ∧ pb 64 x = p0 + p1 + p2 + p3 + p4 + p5 + p6 + p7 := by
  refine ⟨pb 8 (x % 256), pb 8 (x / 256 % 256), pb 8 (x / 256 / 256 % 256), pb 8 (x / 256 / 256 / 256 % 256), pb 8 (x / 256 / 256 / 256 / 256 % 256), pb 8 (x / 256 / 256 / 256 / 256 / 256 % 256), pb 8 (x / 256 / 256 / 256 / 256 / 256 / 256 % 256), pb 8 (x / 256 / 256 / 256 / 256 / 256 / 256 / 256 % 256), ⟨pb_le _ _, pb_le _ _, pb_le _ _, pb_le _ _, pb_le _ _, pb_le _ _, pb_le _ _, pb_le _ _⟩, ?_, ?_⟩
  · simp only [sums, Nat.mul_zero, Nat.add_zero]
  · have s : ∀ k y, pb (8 + k) y = pb 8 (y % 256) + pb k (y / 256) := fun k y => pb_split 8 k y
    have h0 : pb 64 (x) = pb 8 (x % 256) + pb 56 (x / 256) := s 56 _
    have h1 : pb 56 (x / 256) = pb 8 (x / 256 % 256) + pb 48 (x / 256 / 256) := s 48 _
    have h2 : pb 48 (x / 256 / 256) = pb 8 (x / 256 / 256 % 256) + pb 40 (x / 256 / 256 / 256) := s 40 _
    have h3 : pb 40 (x / 256 / 256 / 256) = pb 8 (x / 256 / 256 / 256 % 256) + pb 32 (x / 256 / 256 / 256 / 256) := s 32 _
    have h4 : pb 32 (x / 256 / 256 / 256 / 256) = pb 8 (x / 256 / 256 / 256 / 256 % 256) + pb 24 (x / 256 / 256 / 256 / 256 / 256) := s 24 _
    have h5 : pb 24 (x / 256 / 256 / 256 / 256 / 256) = pb 8 (x / 256 / 256 / 256 / 256 / 256 % 256) + pb 16 (x / 256 / 256 / 256 / 256 / 256 / 256) := s 16 _
    have h6 : pb 16 (x / 256 / 256 / 256 / 256 / 256 / 256) = pb 8 (x / 256 / 256 / 256 / 256 / 256 / 256 % 256) + pb 8 (x / 256 / 256 / 256 / 256 / 256 / 256 / 256) := s 8 _
    have h7 : pb 8 (x / 256 / 256 / 256 / 256 / 256 / 256 / 256) = pb 8 (x / 256 / 256 / 256 / 256 / 256 / 256 / 256 % 256) + pb 0 (x / 256 / 256 / 256 / 256 / 256 / 256 / 256 / 256) := s 0 _
    have h8 : pb 0 (x / 256 / 256 / 256 / 256 / 256 / 256 / 256 / 256) = 0 := rfl
    omega
def ones (x : Nat) : Nat :=
  let y := s3 8 (s2 8 (s1 8 x))
  let y := y + y / 256
  let y := y + y / 65536
  let y := y + y / 4294967296
  y % 128
theorem dv (L R M : Nat) (h : L < M) : (L + M * R) / M = R := by rw [Nat.add_mul_div_left _ _ (by omega), Nat.div_eq_of_lt h, Nat.zero_add]
section
variable (p0 p1 p2 p3 p4 p5 p6 p7 : Nat)
def Y0 : Nat := p0 + 256 * (p1 + 256 * (p2 + 256 * (p3 + 256 * (p4 + 256 * (p5 + 256 * (p6 + 256 * p7))))))
def Y1 : Nat := p1 + 256 * (p2 + 256 * (p3 + 256 * (p4 + 256 * (p5 + 256 * (p6 + 256 * p7)))))
def Z0 : Nat := (p2 + p3) + 256 * ((p3 + p4) + 256 * ((p4 + p5) + 256 * ((p5 + p6) + 256 * ((p6 + p7) + 256 * p7))))
def U0 : Nat := (p0 + p1 + p2 + p3) + 256 * ((p1 + p2 + p3 + p4) + 256 * ((p2 + p3 + p4 + p5) + 256 * (p3 + p4 + p5 + p6)))
def U1 : Nat := (p4 + p5 + p6 + p7) + 256 * ((p5 + p6 + p7) + 256 * ((p6 + p7) + 256 * p7))
theorem lin1 : Y0 p0 p1 p2 p3 p4 p5 p6 p7 + Y1 p1 p2 p3 p4 p5 p6 p7 = ((p0 + p1) + 256 * (p1 + p2)) + 65536 * Z0 p2 p3 p4 p5 p6 p7 := by unfold Y0 Y1 Z0; omega
theorem lin2 : ((p0 + p1) + 256 * (p1 + p2)) + 65536 * Z0 p2 p3 p4 p5 p6 p7 + Z0 p2 p3 p4 p5 p6 p7 = U0 p0 p1 p2 p3 p4 p5 p6 + 4294967296 * U1 p4 p5 p6 p7 := by unfold Z0 U0 U1; omega
theorem lin3 : U0 p0 p1 p2 p3 p4 p5 p6 + 4294967296 * U1 p4 p5 p6 p7 + U1 p4 p5 p6 p7 = (p0 + p1 + p2 + p3 + p4 + p5 + p6 + p7) + 128 * (2 * ((p1 + p2 + p3 + p4) + 256 * ((p2 + p3 + p4 + p5) + 256 * (p3 + p4 + p5 + p6))) + 33554432 * U1 p4 p5 p6 p7 + 2 * ((p5 + p6 + p7) + 256 * ((p6 + p7) + 256 * p7))) := by unfold U0 U1; omega
end
theorem ones_sum (p0 p1 p2 p3 p4 p5 p6 p7 y : Nat) (l : p0 ≤ 8 ∧ p1 ≤ 8 ∧ p2 ≤ 8 ∧ p3 ≤ 8 ∧ p4 ≤ 8 ∧ p5 ≤ 8 ∧ p6 ≤ 8 ∧ p7 ≤ 8) (hy : y = Y0 p0 p1 p2 p3 p4 p5 p6 p7) :
    (y + y / 256 + (y + y / 256) / 65536 + (y + y / 256 + (y + y / 256) / 65536) / 4294967296) % 128 = p0 + p1 + p2 + p3 + p4 + p5 + p6 + p7 := by
  have e1 : y / 256 = Y1 p1 p2 p3 p4 p5 p6 p7 := by rw [hy]; exact dv _ _ _ (by omega)
  have q1 : (p0 + p1) + 256 * (p1 + p2) < 65536 := by omega
  have q2 : U0 p0 p1 p2 p3 p4 p5 p6 < 4294967296 := by clear hy e1; unfold U0; omega
  have q3 : p0 + p1 + p2 + p3 + p4 + p5 + p6 + p7 < 128 := by omega
  rw [e1, hy, lin1, dv _ _ _ q1, lin2, dv _ _ _ q2, lin3, Nat.add_mul_mod_self_left, Nat.mod_eq_of_lt q3]
theorem ones_pb (x : Nat) : ones x = pb 64 x := by
  obtain ⟨p0, p1, p2, p3, p4, p5, p6, p7, hl, hs, hp⟩ := sums8 x
  rw [hp]
  show (s3 8 (s2 8 (s1 8 x)) + s3 8 (s2 8 (s1 8 x)) / 256 + (s3 8 (s2 8 (s1 8 x)) + s3 8 (s2 8 (s1 8 x)) / 256) / 65536 + (s3 8 (s2 8 (s1 8 x)) + s3 8 (s2 8 (s1 8 x)) / 256 + (s3 8 (s2 8 (s1 8 x)) + s3 8 (s2 8 (s1 8 x)) / 256) / 65536) / 4294967296) % 128 = _
  rw [s123]
  exact ones_sum _ _ _ _ _ _ _ _ _ hl hs
@[irreducible] def o64 (x : Nat) : Nat := pb 64 x
theorem o64_eq : o64 = pb 64 := by funext x; unfold o64; rfl
theorem o64_le (x : Nat) : o64 x ≤ 64 := by rw [o64_eq]; exact pb_le _ _
theorem rep85 : rep 85 8 = 6148914691236517205 := by decide +kernel
theorem rep51 : rep 51 8 = 3689348814741910323 := by decide +kernel
theorem rep15 : rep 15 8 = 1085102592571150095 := by decide +kernel
end Hy.Pop
end
section
namespace Hy.Mk
open Go
def chunk (l : List Bool) (j : Nat) : List Bool := (l.drop (64 * j)).take 64
def wd (l : List Bool) (j : Nat) : Nat := Pop.word (chunk l j)
theorem chunk_le (l : List Bool) (j : Nat) : (chunk l j).length ≤ 64 := by unfold chunk; exact List.length_take_le _ _
theorem wd_lt (l : List Bool) (j : Nat) : wd l j < 18446744073709551616 := by
  have h1 := Pop.word_lt (chunk l j)
  have h2 : 2 ^ (chunk l j).length ≤ 2 ^ 64 := Nat.pow_le_pow_right (by decide) (chunk_le l j)
  unfold wd; omega
theorem chunk_len (l : List Bool) (i : Nat) (h : i ≤ l.length) : (chunk (l.take i) (i / 64)).length = i % 64 := by
  unfold chunk; simp only [List.length_take, List.length_drop]; omega
theorem chunk_at (l : List Bool) (i : Nat) (h : i < l.length) : chunk (l.take (i + 1)) (i / 64) = chunk (l.take i) (i / 64) ++ [l[i]] := by
  unfold chunk
  rw [List.take_succ_eq_append_getElem h, List.drop_append_of_le_length (by simp only [List.length_take]; omega)]
  have e1 : (((l.take i).drop (64 * (i / 64))) ++ [l[i]]).take 64 = ((l.take i).drop (64 * (i / 64))) ++ [l[i]] := List.take_of_length_le (by simp only [List.length_append, List.length_drop, List.length_take, List.length_cons, List.length_nil]; omega)
  have e2 : ((l.take i).drop (64 * (i / 64))).take 64 = (l.take i).drop (64 * (i / 64)) := List.take_of_length_le (by simp only [List.length_drop, List.length_take]; omega)
  rw [e1, e2]
theorem chunk_ne (l : List Bool) (i j : Nat) (h : i < l.length) (hj : j ≠ i / 64) : chunk (l.take (i + 1)) j = chunk (l.take i) j := by
  unfold chunk
  rcases Nat.lt_or_ge j (i / 64) with hlt | hge
  · rw [List.take_succ_eq_append_getElem h, List.drop_append_of_le_length (by simp only [List.length_take]; omega), List.take_append_of_le_length (by simp only [List.length_drop, List.length_take]; omega)]
  · have e1 : (l.take (i + 1)).drop (64 * j) = [] := List.drop_eq_nil_of_le (by simp only [List.length_take]; omega)
    have e2 : (l.take i).drop (64 * j) = [] := List.drop_eq_nil_of_le (by simp only [List.length_take]; omega)
    rw [e1, e2]
theorem wd_at (l : List Bool) (i : Nat) (h : i < l.length) : wd (l.take (i + 1)) (i / 64) = wd (l.take i) (i / 64) + l[i].toNat * 2 ^ (i % 64) := by
  unfold wd; rw [chunk_at l i h, Pop.word_snoc, chunk_len l i (by omega)]
theorem wd_room (l : List Bool) (i : Nat) (h : i ≤ l.length) : wd (l.take i) (i / 64) < 2 ^ (i % 64) := by
  unfold wd; have := Pop.word_lt (chunk (l.take i) (i / 64)); rwa [chunk_len l i h] at this
def rowW (W : Nat) (l : List Bool) : List Value := (List.range W).map fun j => .int .u64 (wd l j : Nat)
theorem rowW_get (W : Nat) (l : List Bool) (j : Nat) (h : j < W) : (rowW W l)[j]? = some (.int .u64 (wd l j : Nat)) := by unfold rowW; simp [h]
theorem rowW_nil (W : Nat) : rowW W [] = List.replicate W (.int .u64 0) := by
  unfold rowW
  apply List.ext_getElem <;> simp [wd, chunk, Pop.word]
theorem rowW_no (W : Nat) (l : List Bool) (i : Nat) (h : i < l.length) (hb : l[i] = false) : rowW W (l.take (i + 1)) = rowW W (l.take i) := by
  unfold rowW
  apply List.map_congr_left
  intro j _
  by_cases hj : j = i / 64
  · subst hj; rw [wd_at l i h, hb]; simp
  · unfold wd; rw [chunk_ne l i j h hj]
theorem rowW_yes (W : Nat) (l : List Bool) (i : Nat) (h : i < l.length) (hb : l[i] = true) : (rowW W (l.take i)).set (i / 64) (.int .u64 (wd (l.take i) (i / 64) + 2 ^ (i % 64) : Nat)) = rowW W (l.take (i + 1)) := by
  apply List.ext_getElem (by simp [rowW])
  intro j h1 h2
  rw [List.getElem_set]
  by_cases hj : i / 64 = j
  · subst hj
    rw [if_pos rfl]
    simp only [rowW, List.getElem_map, List.getElem_range]
    rw [wd_at l i h, hb]; simp
  · rw [if_neg hj]
    simp only [rowW, List.getElem_map, List.getElem_range]
    unfold wd; rw [chunk_ne l i j h (Ne.symm hj)]
def wordsL (l : List Bool) : List Nat := (List.range ((l.length + 63) / 64)).map (wd l)
theorem wordsL_len (l : List Bool) : (wordsL l).length = (l.length + 63) / 64 := by unfold wordsL; simp
theorem wordsL_lt (l : List Bool) : ∀ x ∈ wordsL l, x < 18446744073709551616 := fun x hx => by
  unfold wordsL at hx
  obtain ⟨j, _, rfl⟩ := List.mem_map.1 hx
  exact wd_lt l j
theorem u64s_words (l : List Bool) : u64s (wordsL l) = rowW ((l.length + 63) / 64) l := by unfold u64s wordsL rowW; rw [List.map_map]; rfl
theorem sum_to (l : List Bool) : ∀ W, (((List.range W).map (wd l)).map (Pop.pb 64)).sum = (l.take (64 * W)).count true
  | 0 => by simp
  | W + 1 => by
    rw [List.range_succ, List.map_append, List.map_append, List.sum_append, sum_to l W]
    simp only [List.map_cons, List.map_nil, List.sum_cons, List.sum_nil, Nat.add_zero]
    have e : l.take (64 * (W + 1)) = l.take (64 * W) ++ chunk l W := by
      unfold chunk; rw [Nat.mul_add, Nat.mul_one, List.take_add]
    rw [e, List.count_append, wd, Pop.pb_word _ _ (chunk_le l W)]
theorem sum_words (l : List Bool) : ((wordsL l).map Pop.o64).sum = l.count true := by
  rw [Pop.o64_eq]
  unfold wordsL
  rw [sum_to, List.take_of_length_le (by omega)]
theorem sum_take (L : List Nat) (k : Nat) (h : k < L.length) : ((L.take (k + 1)).map Pop.o64).sum = ((L.take k).map Pop.o64).sum + Pop.o64 L[k] := by
  rw [List.take_succ_eq_append_getElem h, List.map_append, List.sum_append]; simp
theorem sum_le (L : List Nat) : (L.map Pop.o64).sum ≤ 64 * L.length := by
  induction L with
  | nil => simp
  | cons x L ih => simp only [List.map_cons, List.sum_cons, List.length_cons]; have := Pop.o64_le x; omega
end Hy.Mk
end
section
namespace Hy
open Go Go.RowKit
theorem natU64_and (a b : Nat) (ha : a < 18446744073709551616) (hb : b < 18446744073709551616) : bits .and .u64 (a : Int) (b : Int) = ((a &&& b : Nat) : Int) := by
  have hx : a &&& b < 18446744073709551616 := Nat.lt_of_le_of_lt Nat.and_le_left ha
  show IntKind.u64.wrap ((BitVec.ofInt 64 (a : Int) &&& BitVec.ofInt 64 (b : Int)).toNat : Int) = _
  rw [BitVec.toNat_and, BitVec.ofInt_natCast, BitVec.ofInt_natCast, BitVec.toNat_ofNat, BitVec.toNat_ofNat, Nat.mod_eq_of_lt (a := a) (by simpa using ha), Nat.mod_eq_of_lt (a := b) (by simpa using hb), IntKind.wrap_u64]
  omega
theorem natI64_and (a b : Nat) (ha : a < 9223372036854775808) (hb : b < 9223372036854775808) : bits .and .i64 (a : Int) (b : Int) = ((a &&& b : Nat) : Int) := by
  have hx : a &&& b < 9223372036854775808 := Nat.lt_of_le_of_lt Nat.and_le_left ha
  show IntKind.i64.wrap ((BitVec.ofInt 64 (a : Int) &&& BitVec.ofInt 64 (b : Int)).toNat : Int) = _
  rw [BitVec.toNat_and, ofInt_i64 a ha, ofInt_i64 b hb, IntKind.wrap_i64]
  omega
theorem natU64_wrap (a : Nat) (ha : a < 18446744073709551616) : IntKind.u64.wrap (a : Int) = (a : Int) := by rw [IntKind.wrap_u64]; omega
end Hy
namespace Go.Proofs.YthgnipangcmanaaGreat
open Go.RowKit Hy
theorem onesCount_any (x : Nat) (hx : x < 18446744073709551616) (w : World) : Calls Tryz.prog 154 #[.int .u64 (x : Int)] w fun e w' => e = .returned (.int .i64 (Pop.o64 x : Nat)) ∧ w = w' := by
  rw [Pop.o64_eq]
  have HR := hid (Pop.ones_pb x)
  unfold Pop.ones Pop.s3 Pop.s2 Pop.s1 at HR
  rw [Pop.rep85, Pop.rep51, Pop.rep15] at HR
  have a1 : bits .and .u64 ((x : Int) / 2) 6148914691236517205 = (((x / 2) &&& 6148914691236517205 : Nat) : Int) := by have := natU64_and (x / 2) 6148914691236517205 (by omega) (by omega); rw [← this]; rfl
  have a2 : bits .and .u64 (x : Int) 6148914691236517205 = ((x &&& 6148914691236517205 : Nat) : Int) := natU64_and x 6148914691236517205 hx (by omega)
  have l1 : (x / 2) &&& 6148914691236517205 ≤ 6148914691236517205 := Nat.and_le_right
  have l2 : x &&& 6148914691236517205 ≤ 6148914691236517205 := Nat.and_le_right
  generalize (x / 2) &&& 6148914691236517205 = A1 at *
  generalize x &&& 6148914691236517205 = A2 at *
  have a3 : IntKind.u64.wrap ((A1 : Int) + (A2 : Int)) = ((A1 + A2 : Nat) : Int) := by rw [← natU64_wrap (A1 + A2) (by omega)]; rfl
  have l3 : A1 + A2 < 18446744073709551616 := by omega
  generalize A1 + A2 = Y1 at *
  have b1 : bits .and .u64 ((Y1 : Int) / 4) 3689348814741910323 = (((Y1 / 4) &&& 3689348814741910323 : Nat) : Int) := by have := natU64_and (Y1 / 4) 3689348814741910323 (by omega) (by omega); rw [← this]; rfl
  have b2 : bits .and .u64 (Y1 : Int) 3689348814741910323 = ((Y1 &&& 3689348814741910323 : Nat) : Int) := natU64_and Y1 3689348814741910323 l3 (by omega)
  have m1 : (Y1 / 4) &&& 3689348814741910323 ≤ 3689348814741910323 := Nat.and_le_right
  have m2 : Y1 &&& 3689348814741910323 ≤ 3689348814741910323 := Nat.and_le_right
  generalize (Y1 / 4) &&& 3689348814741910323 = B1 at *
  generalize Y1 &&& 3689348814741910323 = B2 at *
  have b3 : IntKind.u64.wrap ((B1 : Int) + (B2 : Int)) = ((B1 + B2 : Nat) : Int) := by rw [← natU64_wrap (B1 + B2) (by omega)]; rfl
  have m3 : B1 + B2 ≤ 7378697629483820646 := by omega
  generalize B1 + B2 = Y2 at *
  have c1 : IntKind.u64.wrap ((Y2 : Int) / 16 + (Y2 : Int)) = ((Y2 / 16 + Y2 : Nat) : Int) := by rw [← natU64_wrap (Y2 / 16 + Y2) (by omega)]; rfl
  have n1 : Y2 / 16 + Y2 < 18446744073709551616 := by omega
  generalize Y2 / 16 + Y2 = Y3 at *
  have c2 : bits .and .u64 (Y3 : Int) 1085102592571150095 = ((Y3 &&& 1085102592571150095 : Nat) : Int) := natU64_and Y3 1085102592571150095 n1 (by omega)
  have n2 : Y3 &&& 1085102592571150095 ≤ 1085102592571150095 := Nat.and_le_right
  generalize Y3 &&& 1085102592571150095 = Y4 at *
  have d1 : IntKind.u64.wrap ((Y4 : Int) + (Y4 : Int) / 256) = ((Y4 + Y4 / 256 : Nat) : Int) := by rw [← natU64_wrap (Y4 + Y4 / 256) (by omega)]; rfl
  have o1 : Y4 + Y4 / 256 ≤ 1100000000000000000 := by omega
  dsimp only at HR
  generalize Y4 + Y4 / 256 = Y5 at *
  have d2 : IntKind.u64.wrap ((Y5 : Int) + (Y5 : Int) / 65536) = ((Y5 + Y5 / 65536 : Nat) : Int) := by rw [← natU64_wrap (Y5 + Y5 / 65536) (by omega)]; rfl
  have o2 : Y5 + Y5 / 65536 ≤ 1200000000000000000 := by omega
  generalize Y5 + Y5 / 65536 = Y6 at *
  have d3 : IntKind.u64.wrap ((Y6 : Int) + (Y6 : Int) / 4294967296) = ((Y6 + Y6 / 4294967296 : Nat) : Int) := by rw [← natU64_wrap (Y6 + Y6 / 4294967296) (by omega)]; rfl
  have o3 : Y6 + Y6 / 4294967296 ≤ 1300000000000000000 := by omega
  generalize Y6 + Y6 / 4294967296 = Y7 at *
  have d4 : bits .and .i64 (Y7 : Int) 127 = ((Y7 % 128 : Nat) : Int) := by
    have := natI64_and Y7 127 (by omega) (by omega)
    rw [show Y7 &&& 127 = Y7 % 128 from Nat.and_two_pow_sub_one_eq_mod Y7 7] at this
    rw [← this]; rfl
  have o4 : (Y7 : Int) ≤ 1300000000000000000 := by omega
  have o5 : (0 : Int) ≤ (Y7 : Int) := by omega
  clear hx l1 l2 l3 m1 m2 m3 n1 n2 o1 o2 o3
  go_enter Tryz.func154, Tryz.ntmps154
  go_wp2
  go_returns
  exact ⟨by rw [← HR.out]; rfl, rfl⟩
end Go.Proofs.YthgnipangcmanaaGreat
end
section
namespace Hy
open Go Go.RowKit
theorem made_one (x : Value) (n : Nat) : madeCells #[x] n = (List.replicate n x).toArray := by
  unfold madeCells
  apply Array.ext'
  apply List.ext_getElem <;> simp [Nat.mod_one]
end Hy
namespace Go.Proofs.YthgnipangcmanaaGreat
open Go.RowKit Hy
theorem info_u64w : (Tryz.prog.info? 34).map (fun i => (i.zero, i.size, i.bytes)) = some (some (.int .u64 0), 1, 8) := by kernel_rfl
theorem words_made (k : Nat) (hk : k ≤ 4398046511104) (w : World) : (Instr.makeSlice 124 (.int .i64 (k : Int)) (.int .i64 (k : Int))).run Tryz.prog w =
    .ok (.slice (some ⟨w.heap.size, 0, none⟩) k k) (w.alloc (.cells (Mk.rowW k []).toArray 34)) := by
  obtain ⟨i, hi, hz, hs, hb⟩ := info_parts info_u64w
  rw [run_make w 124 34 i (.int .u64 0) (by kernel_rfl) hi hz .i64 .i64 (k : Int) (k : Int) (by omega) (by omega) (by rw [hb]; omega) (by omega)]
  rw [hs, Nat.mul_one, Int.toNat_natCast, show (Value.int .u64 0).cells = #[.int .u64 0] from rfl, made_one, Mk.rowW_nil]
set_option maxRecDepth 100000 in
set_option maxHeartbeats 1000000 in
theorem wordsOf_any (l : List Bool) (A : Option Addr) (n cap : Nat) (w : World) (hn : l.length = n) (hr : Rd w A (bls l)) (hnl : n ≤ 140737488355328) :
    Calls Tryz.prog 114 #[.slice A n cap] w fun e w' => ∃ g, e = .returned (.slice (some ⟨g, 0, none⟩) ((n + 63) / 64) ((n + 63) / 64)) ∧ Blk w' g 34 (u64s (Mk.wordsL l)).toArray ∧ w.heap.size ≤ g ∧ Ext w w' := by
  obtain ⟨W, hW⟩ : ∃ W, W = (n + 63) / 64 := ⟨_, rfl⟩
  have hw1 : (W : Int) = ((n : Int) + 63) / 64 := by omega
  have HM := hid (words_made W (by omega))
  have hn2 : (n : Int) ≤ 140737488355328 := by omega
  have HW := hid hW
  have HN := hid hn
  have HRR := hid hr
  have HWI := hid hw1
  rw [← hW]
  clear hW hn hr hw1
  go_enter Tryz.func114, Tryz.ntmps114
  have hm := HM.out
  have hw1 := HWI.out.symm
  go_wp2
  clear hm hw1
  go_loopw [13] (fun c wr => ∃ i : Nat, i ≤ n ∧ c = .int .i64 i ∧ Blk wr w.heap.size 34 (Mk.rowW W (l.take i)).toArray ∧ Ext w wr) (fun c _ => n - (intOf c).toNat)
  case atStart => exact ⟨0, Nat.zero_le _, rfl, Blk.new w _ _, (ext_refl w).new _⟩
  case round =>
    obtain ⟨i, hi, rfl, B, X⟩ := hrel
    by_cases hlt : i < n
    · have hia : i < l.length := by rw [HN.out]; exact hlt
      obtain ⟨b1, o1, e1, l1, c1⟩ := HRR.out.bool (by omega)
      subst e1
      have d0 := (X.cell (p := ⟨b1, o1 + i, none⟩) l1).trans (c1 i hia)
      obtain ⟨b, hb⟩ : ∃ b, b = l[i] := ⟨_, rfl⟩
      rw [← hb] at d0
      have HX := hid X
      have HB := hid B
      cases b with
      | false =>
        have HE := hid (Mk.rowW_no W l i hia hb.symm)
        clear hia l1 c1 hb X B
        go_wp2
        go_roundw
        case rel => exact ⟨i + 1, by omega, by go_num, by rw [HE.out]; exact HB.out, HX.out⟩
        case measure => simp [intOf]; omega
      | true =>
        obtain ⟨j, hj⟩ : ∃ j, j = i / 64 := ⟨_, rfl⟩
        obtain ⟨h, hh⟩ : ∃ h, h = i % 64 := ⟨_, rfl⟩
        have hjW : j < W := by have := HW.out; omega
        have HE := hid (Mk.rowW_yes W l i hia hb.symm)
        have hroom := Mk.wd_room l i (by omega)
        have hcell := B.cell j
        rw [List.getElem?_toArray, Mk.rowW_get _ _ _ hjW] at hcell
        have hfz := B.frozen j
        rw [← hj, ← hh] at HE hroom
        obtain ⟨a, ha⟩ : ∃ a, a = Mk.wd (l.take i) j := ⟨_, rfl⟩
        rw [← ha] at HE hroom hcell
        have hpow : 2 ^ h ≤ 2 ^ 63 := Nat.pow_le_pow_right (by decide) (by omega)
        have hw1 : IntKind.u64.wrap ((2 : Int) ^ h) = ((2 ^ h : Nat) : Int) := by
          show ((2 : Int) ^ h) % 18446744073709551616 = _
          rw [show (2 : Int) ^ h = ((2 ^ h : Nat) : Int) from by simp]; omega
        have hw2 : bits .or .u64 (a : Int) ((2 ^ h : Nat) : Int) = ((a + 2 ^ h : Nat) : Int) := by
          have h3 : a ||| 2 ^ h = a + 2 ^ h := by
            have := Nat.two_pow_add_eq_or_of_lt (i := h) (b := a) hroom 1
            rw [Nat.mul_one] at this
            rw [Nat.or_comm, ← this, Nat.add_comm]
          have hx : a + 2 ^ h < 18446744073709551616 := by omega
          show IntKind.u64.wrap ((BitVec.ofInt 64 (a : Int) ||| BitVec.ofInt 64 ((2 ^ h : Nat) : Int)).toNat : Int) = _
          rw [BitVec.toNat_or, BitVec.ofInt_natCast, BitVec.ofInt_natCast, BitVec.toNat_ofNat, BitVec.toNat_ofNat, Nat.mod_eq_of_lt (a := a) (by omega), Nat.mod_eq_of_lt (a := 2 ^ h) (by omega), h3, IntKind.wrap_u64]
          omega
        obtain ⟨P2, hP2⟩ : ∃ P2 : Int, P2 = ((2 ^ h : Nat) : Int) := ⟨_, rfl⟩
        obtain ⟨z, hz⟩ : ∃ z : Nat, z = a + 2 ^ h := ⟨_, rfl⟩
        rw [← hP2] at hw1
        rw [← hP2, ← hz] at hw2
        rw [← hz] at HE
        have hd1 : ((i : Int) / 64) = (j : Int) := by omega
        have hd2 : ((i : Int) % 64) = (h : Int) := by omega
        have hd3 : ((i : Int).tdiv 64) = (j : Int) := by rw [Int.tdiv_eq_ediv_of_nonneg (by omega)]; exact hd1
        have hd4 : ((i : Int).tmod 64) = (h : Int) := by rw [Int.tmod_eq_emod_of_nonneg (by omega)]; exact hd2
        have hh0 : (0 : Int) ≤ (h : Int) := by omega
        have hh64 : (h : Int) < 64 := by omega
        have hj0 : (0 : Int) ≤ (j : Int) := by omega
        have hjWI : (j : Int) < (W : Int) := by omega
        have hwj : IntKind.i64.wrap (j : Int) = (j : Int) := by rw [IntKind.wrap_i64]; omega
        have hwh : IntKind.i64.wrap (h : Int) = (h : Int) := by rw [IntKind.wrap_i64]; omega
        clear hia l1 c1 hb X B hroom hpow hP2 hz ha hj hh
        have HX1 := hid (HX.out.draw.put (p := ⟨w.heap.size, j, none⟩) (Nat.le_refl _) (.int .u64 (z : Nat)))
        have HB1 := hid (HB.out.drew.set j (.int .u64 (z : Nat)))
        go_wp2_with fail
        go_still_tail 10, (by kernel_rfl)
        change wpList _ _ _ _ _ wr.drew
        clear hd1 hd2 hd3 hd4 hw1 hw2 hwj hwh
        go_wp2
        go_roundw
        case rel => exact ⟨i + 1, by omega, by go_num, by rw [← HE.out, ← List.setIfInBounds_toArray]; exact HB1.out, HX1.out⟩
        case measure => simp [intOf]; omega
    · have hin : i = n := by omega
      subst hin
      have HX := hid X
      have hl : l.take i = l := List.take_of_length_le (by rw [HN.out]; exact Nat.le_refl _)
      rw [hl] at B
      have HB := hid (show Blk wr w.heap.size 34 (u64s (Mk.wordsL l)).toArray from by rw [Mk.u64s_words, HN.out, ← HW.out]; exact B)
      clear B X hl
      go_wp2
      go_returns
      exact ⟨_, rfl, HB.out, Nat.le_refl _, HX.out⟩
end Go.Proofs.YthgnipangcmanaaGreat
end
section
namespace Hy
open Go Go.RowKit
theorem Blk.rd {w : World} {g : Nat} {t : TypeId} {cs : List Value} (h : Blk w g t cs.toArray) : Rd w (some ⟨g, 0, none⟩) cs := fun _ => by
  refine ⟨g, 0, rfl, h.lt, fun j u hu => ?_⟩
  rw [Nat.zero_add, h.cell j, List.getElem?_toArray]; exact hu
theorem Rd.u64 {w : World} {A : Option Addr} {l : List Nat} (h : Rd w A (u64s l)) (hp : 0 < l.length) :
    ∃ b o, A = some ⟨b, o, none⟩ ∧ b < w.heap.size ∧ ∀ k (hk : k < l.length), w.cell? ⟨b, o + k, none⟩ = some (.int .u64 (l[k] : Nat)) := by
  obtain ⟨b, o, e, hb, hc⟩ := h (by unfold u64s; rw [List.length_map]; exact hp)
  exact ⟨b, o, e, hb, fun k hk => hc k _ (by unfold u64s; simp [hk])⟩
end Hy
namespace Go.Proofs.YthgnipangcmanaaGreat
open Go.RowKit Hy
set_option maxHeartbeats 1000000 in
theorem wcount_any (L : List Nat) (A : Option Addr) (n cap : Nat) (w : World) (hn : L.length = n) (hr : Rd w A (u64s L)) (hL : ∀ x ∈ L, x < 18446744073709551616) (hnl : n ≤ 4398046511104) :
    Calls Tryz.prog 115 #[.slice A n cap] w fun e w' => e = .returned (.int .i64 (((L.map Pop.o64).sum : Nat) : Int)) ∧ w = w' := by
  have HN := hid hn; have HRR := hid hr; have HL := hid hL
  have hn2 : (n : Int) ≤ 4398046511104 := by omega
  clear hn hr hL
  go_enter Tryz.func115, Tryz.ntmps115
  go_wp2
  go_loop [3, 8] (fun s c => ∃ i : Nat, i ≤ n ∧ c = .int .i64 i ∧ s = .int .i64 ((((L.take i).map Pop.o64).sum : Nat) : Int)) (fun _ c => n - (intOf c).toNat)
  case atStart => exact ⟨0, Nat.zero_le _, rfl, rfl⟩
  case round =>
    obtain ⟨i, hi, rfl, rfl⟩ := hrel
    by_cases hlt : i < n
    · have hia : i < L.length := by rw [HN.out]; exact hlt
      obtain ⟨b1, o1, e1, l1, c1⟩ := HRR.out.u64 (by omega)
      subst e1
      have d0 := c1 i hia
      have HS := hid (Mk.sum_take L i hia)
      have hle := Mk.sum_le (L.take i)
      have hlen : (L.take i).length ≤ i := List.length_take_le _ _
      have hpb := Pop.o64_le L[i]
      have HC := hid (fun w => onesCount_any L[i] (HL.out _ (List.getElem_mem hia)) w)
      obtain ⟨x, hx⟩ : ∃ x, x = L[i] := ⟨_, rfl⟩
      rw [← hx] at d0 HS HC hpb
      obtain ⟨p, hp⟩ : ∃ p, p = Pop.o64 x := ⟨_, rfl⟩
      rw [← hp] at HS HC hpb
      generalize ((L.take i).map Pop.o64).sum = S at *
      have hS : (S : Int) ≤ 281474976710656 := by omega
      have hp2 : (p : Int) ≤ 64 := by omega
      clear hle hlen hpb c1 hia hx hp
      go_wp2_with fail
      refine Calls.mono (HC.out _) ?_
      rintro e _ ⟨rfl, rfl⟩
      go_wp2
      go_round
      case rel => exact ⟨i + 1, by omega, by go_num, by rw [HS.out]; go_num⟩
      case measure => simp [intOf]; omega
    · have hin : i = n := by omega
      subst hin
      have hl : L.take i = L := List.take_of_length_le (by rw [HN.out]; exact Nat.le_refl _)
      rw [hl]
      go_wp2
      go_returns
      exact ⟨rfl, rfl⟩
theorem count_any (l : List Bool) (A : Option Addr) (n cap : Nat) (w : World) (hn : l.length = n) (hr : Rd w A (bls l)) (hnl : n ≤ 140737488355328) :
    Calls Tryz.prog 79 #[.slice A n cap] w fun e w' => e = .returned (.int .i64 ((l.count true : Nat) : Int)) ∧ Ext w w' := by
  have HW := hid (wordsOf_any l A n cap w hn hr hnl)
  have HN := hid hn
  have HC := hid (fun g wx (hB : Blk wx g 34 (u64s (Mk.wordsL l)).toArray) => wcount_any (Mk.wordsL l) (some ⟨g, 0, none⟩) ((n + 63) / 64) ((n + 63) / 64) wx (by rw [Mk.wordsL_len, hn]) hB.rd (Mk.wordsL_lt l) (by omega))
  clear hn hr hnl
  go_enter Tryz.func79, Tryz.ntmps79
  go_wp2_with fail
  refine Calls.mono HW.out ?_
  rintro e w1 ⟨g, rfl, hB, _, hx⟩
  have HX := hid hx
  have HC1 := hid (HC.out g w1 hB)
  clear hB hx
  go_wp2_with fail
  refine Calls.mono HC1.out ?_
  rintro e _ ⟨rfl, rfl⟩
  go_wp2
  go_returns
  exact ⟨by rw [Mk.sum_words]; rfl, HX.out⟩
end Go.Proofs.YthgnipangcmanaaGreat
end
section
namespace Hy
open Go Go.RowKit
theorem bls_one (l : List Bool) : ∀ u ∈ bls l, u.oneCell' = true := fun u hu => by
  unfold bls at hu; obtain ⟨x, _, rfl⟩ := List.mem_map.1 hu; rfl
theorem bls_app (l m : List Bool) : bls (l ++ m) = bls l ++ bls m := by simp [bls]
theorem count_take (l : List Bool) (k : Nat) (h : k < l.length) : (l.take (k + 1)).count true = (l.take k).count true + if l[k] then 1 else 0 := by
  rw [List.take_succ_eq_append_getElem h, List.count_append]
  cases l[k] <;> simp
end Hy
namespace Go.Proofs.YthgnipangcmanaaGreat
open Go.RowKit Hy
theorem rowBl : RowT Tryz.prog 39 4 1 1 := RowT.mk' (z := .bool false) Tryz.underlying39 (by kernel_rfl) rfl (by decide)
end Go.Proofs.YthgnipangcmanaaGreat
end
section
namespace Go.Proofs.YthgnipangcmanaaGreat
open Go.RowKit Hy
theorem kind_any (k : Int) (w : World) : Calls Tryz.prog 64 #[.int .i64 k] w fun e w' => e = .returned (.bool (decide (k = 1 ∨ k = 2))) ∧ w = w' := by
  by_cases h1 : k = 1
  · subst h1
    go_enter Tryz.func64, Tryz.ntmps64
    go_wp2
    go_returns
    exact ⟨rfl, rfl⟩
  · have e1 : (k == 1) = false := by simpa using h1
    by_cases h2 : k = 2
    · subst h2
      go_enter Tryz.func64, Tryz.ntmps64
      go_wp2
      go_returns
      exact ⟨rfl, rfl⟩
    · have e2 : (k == 2) = false := by simpa using h2
      have e3 : decide (k = 1 ∨ k = 2) = false := by simp [h1, h2]
      rw [e3]
      go_enter Tryz.func64, Tryz.ntmps64
      go_wp2
      go_returns
      exact ⟨rfl, rfl⟩
end Go.Proofs.YthgnipangcmanaaGreat
end
section
namespace Go.Proofs.YthgnipangcmanaaGreat
open Go.RowKit Hy
theorem alone_any (kind : Int) (c : Cel) (w : World) :
    Calls Tryz.prog 65 #[.int .i64 kind, celV c] w fun e w' => e = .returned (.int .i64 (Cel.alone kind c : Nat)) ∧ Ext w w' := by
  obtain ⟨k, n, s⟩ := c
  go_enter Tryz.func65, Tryz.ntmps65
  go_wp2
  all_goals go_returns
  all_goals refine ⟨ret_int ?_, Ext.new (ext_refl w) _⟩
  all_goals simp only [Cel.emptyB, bne_iff_ne, ne_eq, bne_eq_false_iff_eq, Bool.not_eq_true', Bool.not_eq_false', decide_eq_true_eq, decide_eq_false_iff_not] at *
  all_goals (unfold Cel.alone; simp only; repeat' split)
  all_goals omega
end Go.Proofs.YthgnipangcmanaaGreat
end
section
namespace Go.Proofs.YthgnipangcmanaaGreat
open Go.RowKit Hy
theorem cellCheck_any (kind : Int) (c : Cel) (w : World) :
    Calls Tryz.prog 50 #[.int .i64 kind, celV c] w fun e w' => e = .returned (.int .i64 (Cel.alone kind c : Nat)) ∧ Ext w w' := by
  obtain ⟨k, n, s⟩ := c
  go_enter Tryz.func50, Tryz.ntmps50
  go_wp2
  all_goals go_returns
  all_goals refine ⟨ret_int ?_, Ext.new (ext_refl w) _⟩
  all_goals (try simp only [bne_iff_ne, ne_eq, bne_eq_false_iff_eq] at *)
  all_goals (unfold Cel.alone; simp only; repeat' split)
  all_goals omega
end Go.Proofs.YthgnipangcmanaaGreat
end
section
namespace Go.Proofs.YthgnipangcmanaaGreat
open Go.RowKit Hy
set_option maxHeartbeats 1600000 in
theorem ncheck_any (kind : Int) (l : List Cel) (A : Option Addr) (n cap : Nat) (w : World) (hn : l.length = n) (hr : Rd w A (cls l)) (hnl : n ≤ 140737488355328) :
    Calls Tryz.prog 41 #[.int .i64 kind, .slice A n cap] w fun e w' => e = .returned (.int .i64 (Cel.cchk kind l : Nat)) ∧ Ext w w' := by
  have HK := hid (kind_any kind)
  have HN := hid hn
  have HA := hid hr
  obtain ⟨R, hR⟩ : ∃ R, R = Cel.cchk kind l := ⟨_, rfl⟩
  rw [← hR]
  have HR := hid (show R = if kind ≠ 1 ∧ kind ≠ 2 then 7 else if 64 < l.length then 2 else Cel.bad kind l by rw [hR]; unfold Cel.cchk; rfl)
  have hnI : (n : Int) ≤ 140737488355328 := by omega
  clear hR hr hn
  by_cases hk : kind = 1 ∨ kind = 2
  · have hd : decide (kind = 1 ∨ kind = 2) = true := by simpa using hk
    rw [hd] at HK
    by_cases h64 : n ≤ 64
    · have hI : (n : Int) ≤ 64 := by omega
      have HR0 := hid (show R = Cel.bad kind (l.drop 0) by rw [HR.out, if_neg (by omega), if_neg (by rw [HN.out]; omega)]; rfl)
      clear hd hk h64 hnl HR
      go_enter Tryz.func41, Tryz.ntmps41
      go_wp2_with (go_at_call 64; refine (HK.out _).mono ?_; rintro e w1 ⟨rfl, rfl⟩)
      go_loopw [6, 18] (fun _ c wr => ∃ k : Nat, k ≤ n ∧ c = .int .i64 k ∧ Hid (R = Cel.bad kind (l.drop k)) ∧ Ext w wr) (fun _ c _ => n - (intOf c).toNat)
      case atStart => exact ⟨0, Nat.zero_le _, rfl, HR0, ext_refl _⟩
      case round =>
        obtain ⟨k, hk, rfl, HI, X⟩ := hrel
        by_cases hlt : k < n
        · have hka : k < l.length := by rw [HN.out]; exact hlt
          obtain ⟨b1, o1, e1, l1, c1⟩ := HA.out.cels k hka
          subst e1
          have d0 := (X.cell (p := ⟨b1, o1 + k * 3, none⟩) l1).trans (c1 k hka).1
          have d1 := (X.cell (p := ⟨b1, o1 + k * 3 + 1, none⟩) l1).trans (c1 k hka).2.1
          have d2 := (X.cell (p := ⟨b1, o1 + k * 3 + 2, none⟩) l1).trans (c1 k hka).2.2
          have HAL := hid (alone_any kind l[k])
          have HBA := hid (fun h => Cel.bad_at (kind := kind) hka h)
          have HBN := hid (fun h => Cel.bad_next (kind := kind) hka h)
          obtain ⟨E, hE⟩ : ∃ E, E = Cel.alone kind l[k] := ⟨_, rfl⟩
          have hE7 := Cel.alone_le kind l[k]
          rw [← hE] at HAL HBA HBN hE7
          clear hE c1
          generalize l[k] = c at *
          obtain ⟨kk, nn, ss⟩ := c
          simp only at d0 d1 d2
          by_cases hE0 : E = 0
          · have HN2 := hid (show R = _ by rw [HI.out, HBN.out hE0])
            subst hE0
            clear HBA HBN hka hE7 HI
            go_wp2_with (go_at_call 65; go_loud (refine (HAL.out _).mono ?_; rintro e w2 ⟨rfl, x2⟩; have X2 := hid x2; clear x2))
            go_roundw
            case rel => exact ⟨k + 1, by omega, by go_num, HN2, (X.new _).then X2.out⟩
            case measure => simp [intOf]; omega
          · have HN2 := hid (show R = E by rw [HI.out, HBA.out hE0])
            have e1 : ((E : Int) == 0) = false := by rw [beq_eq_false_iff_ne]; omega
            have e2 : ((E : Int) != 0) = true := by simp; omega
            clear HBA HBN hka hE7 HI hE0
            go_wp2_with (go_at_call 65; go_loud (refine (HAL.out _).mono ?_; rintro e w2 ⟨rfl, x2⟩; have X2 := hid x2; clear x2))
            go_returns
            exact ⟨by rw [HN2.out]; rfl, (X.new _).then X2.out⟩
        · obtain rfl : k = n := by omega
          have HE := hid (show R = 0 by rw [HI.out, List.drop_of_length_le (by rw [HN.out]; exact Nat.le_refl _)]; rfl)
          go_wp2
          go_returns
          exact ⟨by rw [HE.out]; rfl, X⟩
    · have hI : 64 < (n : Int) := by omega
      have HE := hid (show R = 2 by rw [HR.out, if_neg (by omega), if_pos (by rw [HN.out]; omega)])
      clear hd hk h64 hnl HR
      go_enter Tryz.func41, Tryz.ntmps41
      go_wp2_with (go_at_call 64; refine (HK.out _).mono ?_; rintro e w1 ⟨rfl, rfl⟩)
      go_returns
      exact ⟨by rw [HE.out]; rfl, ext_refl _⟩
  · have hd : decide (kind = 1 ∨ kind = 2) = false := by simpa using hk
    rw [hd] at HK
    have HE := hid (show R = 7 by rw [HR.out, if_pos (by omega)])
    clear hd hk hnl HR
    go_enter Tryz.func41, Tryz.ntmps41
    go_wp2_with (go_at_call 64; refine (HK.out _).mono ?_; rintro e w1 ⟨rfl, rfl⟩)
    go_returns
    exact ⟨by rw [HE.out]; rfl, ext_refl _⟩
end Go.Proofs.YthgnipangcmanaaGreat
end
section
namespace Go.Proofs.YthgnipangcmanaaGreat
open Go.RowKit Hy
set_option maxHeartbeats 1600000 in
theorem cellsCheck_any (kind : Int) (l : List Cel) (A : Option Addr) (n cap : Nat) (w : World) (hn : l.length = n) (hr : Rd w A (cls l)) (hnl : n ≤ 140737488355328) :
    Calls Tryz.prog 23 #[.int .i64 kind, .slice A n cap] w fun e w' => e = .returned (.int .i64 (Cel.cchk kind l : Nat)) ∧ Ext w w' := by
  have HN := hid hn
  have HA := hid hr
  obtain ⟨R, hR⟩ : ∃ R, R = Cel.cchk kind l := ⟨_, rfl⟩
  rw [← hR]
  have HR := hid (show R = if kind ≠ 1 ∧ kind ≠ 2 then 7 else if 64 < l.length then 2 else Cel.bad kind l by rw [hR]; unfold Cel.cchk; rfl)
  have hnI : (n : Int) ≤ 140737488355328 := by omega
  clear hR hr hn
  by_cases hk : kind = 1 ∨ kind = 2
  · by_cases h64 : n ≤ 64
    · have hI : (n : Int) ≤ 64 := by omega
      have HR0 := hid (show R = Cel.bad kind (l.drop 0) by rw [HR.out, if_neg (by omega), if_neg (by rw [HN.out]; omega)]; rfl)
      clear h64 hnl HR
      have K1 : ((kind != 1) = false) ∨ ((kind != 1) = true ∧ (kind != 2) = false) := by
        rcases hk with h | h
        · left; rw [h]; rfl
        · right; rw [h]; exact ⟨rfl, rfl⟩
      clear hk
      rcases K1 with g1 | ⟨g1, g2⟩
      all_goals (
        go_enter Tryz.func23, Tryz.ntmps23
        go_wp2
        go_loopw [5, 6] (fun c _ wr => ∃ k : Nat, k ≤ n ∧ c = .int .i64 k ∧ Hid (R = Cel.bad kind (l.drop k)) ∧ Ext w wr) (fun c _ _ => n - (intOf c).toNat)
        case atStart => exact ⟨0, Nat.zero_le _, rfl, HR0, ext_refl _⟩
        case round =>
          obtain ⟨k, hk, rfl, HI, X⟩ := hrel
          by_cases hlt : k < n
          · have hka : k < l.length := by rw [HN.out]; exact hlt
            obtain ⟨b1, o1, e1, l1, c1⟩ := HA.out.cels k hka
            subst e1
            have d0 := (X.cell (p := ⟨b1, o1 + k * 3, none⟩) l1).trans (c1 k hka).1
            have d1 := (X.cell (p := ⟨b1, o1 + k * 3 + 1, none⟩) l1).trans (c1 k hka).2.1
            have d2 := (X.cell (p := ⟨b1, o1 + k * 3 + 2, none⟩) l1).trans (c1 k hka).2.2
            have HAL := hid (cellCheck_any kind l[k])
            have HBA := hid (fun h => Cel.bad_at (kind := kind) hka h)
            have HBN := hid (fun h => Cel.bad_next (kind := kind) hka h)
            obtain ⟨E, hE⟩ : ∃ E, E = Cel.alone kind l[k] := ⟨_, rfl⟩
            have hE7 := Cel.alone_le kind l[k]
            rw [← hE] at HAL HBA HBN hE7
            clear hE c1
            generalize l[k] = c at *
            obtain ⟨kk, nn, ss⟩ := c
            simp only at d0 d1 d2
            by_cases hE0 : E = 0
            · have HN2 := hid (show R = _ by rw [HI.out, HBN.out hE0])
              subst hE0
              clear HBA HBN hka hE7 HI
              go_wp2_with (go_at_call 50; go_loud (refine (HAL.out _).mono ?_; rintro e w2 ⟨rfl, x2⟩; have X2 := hid x2; clear x2))
              go_roundw
              case rel => exact ⟨k + 1, by omega, by go_num, HN2, X.then X2.out⟩
              case measure => simp [intOf]; omega
            · have HN2 := hid (show R = E by rw [HI.out, HBA.out hE0])
              have e1 : ((E : Int) == 0) = false := by rw [beq_eq_false_iff_ne]; omega
              have e2 : ((E : Int) != 0) = true := by simp; omega
              clear HBA HBN hka hE7 HI hE0
              go_wp2_with (go_at_call 50; go_loud (refine (HAL.out _).mono ?_; rintro e w2 ⟨rfl, x2⟩; have X2 := hid x2; clear x2))
              go_returns
              exact ⟨by rw [HN2.out]; rfl, X.then X2.out⟩
          · obtain rfl : k = n := by omega
            have HE := hid (show R = 0 by rw [HI.out, List.drop_of_length_le (by rw [HN.out]; exact Nat.le_refl _)]; rfl)
            go_wp2
            go_returns
            exact ⟨by rw [HE.out]; rfl, X⟩)
    · have hI : 64 < (n : Int) := by omega
      have HE := hid (show R = 2 by rw [HR.out, if_neg (by omega), if_pos (by rw [HN.out]; omega)])
      clear h64 hnl HR
      have K1 : ((kind != 1) = false) ∨ ((kind != 1) = true ∧ (kind != 2) = false) := by
        rcases hk with h | h
        · left; rw [h]; rfl
        · right; rw [h]; exact ⟨rfl, rfl⟩
      clear hk
      rcases K1 with g1 | ⟨g1, g2⟩
      all_goals (
        go_enter Tryz.func23, Tryz.ntmps23
        go_wp2
        go_returns
        exact ⟨by rw [HE.out]; rfl, ext_refl _⟩)
  · have e1 : (kind != 1) = true := by simp; omega
    have e2 : (kind != 2) = true := by simp; omega
    have HE := hid (show R = 7 by rw [HR.out, if_pos (by omega)])
    clear hk hnl HR
    go_enter Tryz.func23, Tryz.ntmps23
    go_wp2
    go_returns
    exact ⟨by rw [HE.out]; rfl, ext_refl _⟩
end Go.Proofs.YthgnipangcmanaaGreat
end
section
namespace Hy.Cel
def dense (l : List Cel) : List Cel := l.filter fun c => decide (c.1 ≠ 0)
theorem dense_yes (l : List Cel) (k : Nat) (h : k < l.length) (hc : l[k].1 ≠ 0) : dense (l.take (k + 1)) = dense (l.take k) ++ [l[k]] := by
  unfold dense; rw [List.take_succ_eq_append_getElem h, List.filter_append, List.filter_cons_of_pos (by simpa using hc)]; rfl
theorem dense_no (l : List Cel) (k : Nat) (h : k < l.length) (hc : l[k].1 = 0) : dense (l.take (k + 1)) = dense (l.take k) := by
  unfold dense; rw [List.take_succ_eq_append_getElem h, List.filter_append, List.filter_cons_of_neg (by simpa using hc)]; simp only [List.filter_nil, List.append_nil]
theorem dense_len (l : List Cel) : (dense l).length ≤ l.length := List.length_filter_le _ _
end Hy.Cel
namespace Go.Proofs.YthgnipangcmanaaGreat
open Go.RowKit Hy
theorem rowCl : RowT Tryz.prog 22 48 3 32 := RowT.mk' (z := .agg #[.int .i64 0, .int .u64 0, .string .empty]) Tryz.underlying22 (by kernel_rfl) rfl (by decide)
end Go.Proofs.YthgnipangcmanaaGreat
end
section
namespace Go.Proofs.YthgnipangcmanaaGreat
open Go.RowKit Hy
set_option maxHeartbeats 1600000 in
theorem denseOf_any (l : List Cel) (A : Option Addr) (n cap : Nat) (w : World) (hn : l.length = n) (hr : Rd w A (cls l)) (hnl : n ≤ 1000000000000) :
    Calls Tryz.prog 33 #[.slice A n cap] w fun e w' => ∃ B c, e = .returned (.slice B (Cel.dense l).length c) ∧ Rd w' B (cls (Cel.dense l)) ∧ Ext w w' := by
  have HN := hid hn
  have HA := hid hr
  have HL := hid hnl
  have hnI : (n : Int) ≤ 1000000000000 := by omega
  clear hn hr hnl
  go_enter Tryz.func33, Tryz.ntmps33
  go_wp2
  go_loopw [3, 4] (fun x c wr => ∃ k : Nat, k ≤ n ∧ c = .int .i64 k ∧ wr.ownsRow w.heap.size 48 3 x (Cel.dense (l.take k)).length (cls (Cel.dense (l.take k))) ∧ Ext w wr) (fun _ c _ => n - (intOf c).toNat)
  case atStart => exact ⟨0, Nat.zero_le _, rfl, World.ownsRow_nil _ _ _ _, ext_refl _⟩
  case round =>
    obtain ⟨k, hk, rfl, hown, X⟩ := hrel
    by_cases hlt : k < n
    · have hka : k < l.length := by rw [HN.out]; exact hlt
      obtain ⟨b1, o1, e1, l1, c1⟩ := HA.out.cels k hka
      subst e1
      have d0 := (X.cell (p := ⟨b1, o1 + k * 3, none⟩) l1).trans (c1 k hka).1
      have d1 := (X.cell (p := ⟨b1, o1 + k * 3 + 1, none⟩) l1).trans (c1 k hka).2.1
      have d2 := (X.cell (p := ⟨b1, o1 + k * 3 + 2, none⟩) l1).trans (c1 k hka).2.2
      have HY := hid (Cel.dense_yes l k hka)
      have HNO := hid (Cel.dense_no l k hka)
      have hDL := Cel.dense_len (l.take k)
      have HDL := hid (show (Cel.dense (l.take k)).length ≤ n by rw [List.length_take] at hDL; omega)
      have HO := hid hown
      generalize l[k] = c at *
      generalize Cel.dense (l.take k) = D at *
      obtain ⟨kk, nn, ss⟩ := c
      simp only at d0 d1 d2 HY HNO
      clear c1 hka hown hDL
      by_cases hk0 : kk = 0
      · have HE := hid (HNO.out hk0)
        subst hk0
        go_wp2
        go_roundw
        case rel => exact ⟨k + 1, by omega, by go_num, by rw [HE.out]; exact HO.out, X⟩
        case measure => simp [intOf]; omega
      · have HE := hid (HY.out hk0)
        have e1 : (kk == 0) = false := by simpa using hk0
        have e2 : (kk != 0) = true := by simpa using hk0
        clear hk0
        go_wp2_with (at_builtin; go_loud (refine wpList_app rfl (.tmp 17) (.tmp 22) rowCl rfl _ D.length (cls D) rfl (own_ext HO.out (Ext.new (ext_refl _) _)) _ 1 (cls [(kk, nn, ss)]) rfl (Src.rd Tryz.underlying22 _ 1 1 _ rfl (rd_lit rfl rfl) (cls_one _) (fun h => by cases h)) (by have := HDL.out; have := HL.out; simp only [maxLen]; omega) (by have := HDL.out; have := HL.out; omega) (by have := X.size; simp; omega) ?_; intro v' w5 hown5 hgrow hat hbel))
        go_roundw
        case rel => exact ⟨k + 1, by omega, by go_num, by rw [HE.out, List.length_append, cls_app]; exact hown5, (Ext.new X _).trans hbel⟩
        case measure => simp [intOf]; omega
    · obtain rfl : k = n := by omega
      obtain ⟨B, c, rfl, hrd, hB, hc, hcm⟩ := Rd.owned hown
      have HRD := hid hrd
      clear hown hrd hB hc hcm
      go_wp2
      go_returns
      have e : l.take k = l := List.take_of_length_le (by rw [HN.out]; exact Nat.le_refl _)
      rw [e] at HRD ⊢
      exact ⟨B, c, rfl, HRD.out, X⟩
end Go.Proofs.YthgnipangcmanaaGreat
end
section
namespace Hy
open Go Go.RowKit
def thereL (l : List Cel) : List Bool := l.map fun c => decide (c.1 ≠ 0)
theorem thereL_take (l : List Cel) (k : Nat) (h : k < l.length) : thereL (l.take (k + 1)) = thereL (l.take k) ++ [decide (l[k].1 ≠ 0)] := by
  unfold thereL; rw [List.take_succ_eq_append_getElem h, List.map_append]; rfl
theorem thereL_len (l : List Cel) : (thereL l).length = l.length := List.length_map _
end Hy
end
section
namespace Hy.Cel
abbrev O : Cel := (0, 0, ByteArray.empty)
def ok (c : Cel) : Prop := c.1 = 0 → c = O
theorem alone_ok {kind : Int} {c : Cel} (h : alone kind c = 0) : ok c := by
  obtain ⟨k, n, s⟩ := c
  intro hk
  simp only at hk
  subst hk
  unfold alone at h
  simp only at h
  split at h
  · cases h
  · split at h
    · cases h
    · rename_i h2
      have hn : n = 0 := by omega
      have hs : s.size = 0 := by omega
      subst hn
      have : s = ByteArray.empty := by apply ByteArray.ext; exact Array.eq_empty_of_size_eq_zero hs
      rw [this]
def minC (a b : Cel) : Cel := if a.1 = 0 ∨ (b.1 ≠ 0 ∧ less b a = true) then b else a
def mn (l : List Cel) : Cel := l.foldl minC O
end Hy.Cel
end
section
namespace Hy.Cel
theorem bad_alone {kind : Int} {l : List Cel} (h : bad kind l = 0) : ∀ c ∈ l, alone kind c = 0 := by
  induction l with
  | nil => simp
  | cons c r ih =>
    simp only [bad] at h
    split at h
    · rename_i h0
      intro e he
      rcases List.mem_cons.1 he with rfl | he
      · exact h0
      · exact ih h e he
    · rename_i h0; exact absurd h h0
theorem bad_of {kind : Int} {l : List Cel} (h : ∀ c ∈ l, alone kind c = 0) : bad kind l = 0 := by
  induction l with
  | nil => rfl
  | cons c r ih => simp only [bad]; rw [if_pos (h c (by simp))]; exact ih fun e he => h e (by simp [he])
theorem cchk_iff {kind : Int} {l : List Cel} : cchk kind l = 0 ↔ (kind = 1 ∨ kind = 2) ∧ l.length ≤ 64 ∧ ∀ c ∈ l, alone kind c = 0 := by
  unfold cchk
  split
  · rename_i h
    exact ⟨fun h' => (by cases h'), fun h' => absurd h (by omega)⟩
  · rename_i h
    split
    · rename_i h1
      exact ⟨fun h' => (by cases h'), fun h' => absurd h1 (by omega)⟩
    · rename_i h1
      exact ⟨fun h' => ⟨by omega, by omega, bad_alone h'⟩, fun h' => bad_of h'.2.2⟩
theorem cchk_ok {kind : Int} {l : List Cel} (h : cchk kind l = 0) : ∀ c ∈ l, ok c := fun c hc => alone_ok ((cchk_iff.1 h).2.2 c hc)
theorem dense_app (l m : List Cel) : dense (l ++ m) = dense l ++ dense m := by unfold dense; rw [List.filter_append]
end Hy.Cel
end
section
namespace Go.Proofs.YthgnipangcmanaaGreat
open Go.RowKit Hy
theorem there_any (c : Cel) (w : World) : Calls Tryz.prog 42 #[celV c] w fun e w' => e = .returned (.bool (decide (c.1 ≠ 0))) ∧ Ext w w' := by
  obtain ⟨k, n, s⟩ := c
  have e : decide (k ≠ 0) = (k != 0) := by by_cases h : k = 0 <;> simp [h]
  go_enter Tryz.func42, Tryz.ntmps42
  go_wp2
  go_returns
  exact ⟨by rw [e]; rfl, Ext.new (ext_refl _) _⟩
end Go.Proofs.YthgnipangcmanaaGreat
end
section
namespace Hy.Cel
def anyNull (l : List Cel) : Bool := l.any fun c => decide (c.1 = 0)
def jchk (kind : Int) (m : List Bool) (l : List Cel) : Nat := if cchk kind l ≠ 0 then cchk kind l else if anyNull l = true then 7 else if 64 < m.length then 2 else if m.count true ≠ l.length then 1 else 0
end Hy.Cel
namespace Go.Proofs.YthgnipangcmanaaGreat
open Go.RowKit Hy
set_option maxHeartbeats 1600000 in
theorem thereOf_any (l : List Cel) (A : Option Addr) (n cap : Nat) (w : World) (hn : l.length = n) (hr : Rd w A (cls l)) (hnl : n ≤ 1000000000000) :
    Calls Tryz.prog 36 #[.slice A n cap] w fun e w' => ∃ B c, e = .returned (.slice B n c) ∧ Rd w' B (bls (thereL l)) ∧ Ext w w' := by
  have HN := hid hn
  have HA := hid hr
  have HL := hid hnl
  have hnI : (n : Int) ≤ 1000000000000 := by omega
  clear hn hr hnl
  go_enter Tryz.func36, Tryz.ntmps36
  go_wp2
  go_loopw [3, 4] (fun x c wr => ∃ k : Nat, k ≤ n ∧ c = .int .i64 k ∧ wr.ownsRow w.heap.size 4 1 x k (bls (thereL (l.take k))) ∧ Ext w wr) (fun _ c _ => n - (intOf c).toNat)
  case atStart => exact ⟨0, Nat.zero_le _, rfl, World.ownsRow_nil _ _ _ _, ext_refl _⟩
  case round =>
    obtain ⟨k, hk, rfl, hown, X⟩ := hrel
    by_cases hlt : k < n
    · have hka : k < l.length := by rw [HN.out]; exact hlt
      obtain ⟨b1, o1, e1, l1, c1⟩ := HA.out.cels k hka
      subst e1
      have d0 := (X.cell (p := ⟨b1, o1 + k * 3, none⟩) l1).trans (c1 k hka).1
      have HE := hid (thereL_take l k hka)
      have HO := hid hown
      generalize l[k] = c at *
      generalize thereL (l.take k) = D at *
      obtain ⟨kk, nn, ss⟩ := c
      simp only at d0 HE
      obtain ⟨q, hq⟩ : ∃ q, q = decide (kk ≠ 0) := ⟨_, rfl⟩
      have e2 : (kk != 0) = q := by rw [hq]; simp [bne, BEq.beq]
      rw [← hq] at HE
      clear c1 hka hown hq
      go_wp2_with (at_builtin; go_loud (refine wpList_app rfl (.tmp 11) (.tmp 18) rowBl rfl _ k (bls D) rfl (own_ext HO.out (Ext.new (ext_refl _) _)) _ 1 (bls [q]) rfl (Src.rd Tryz.underlying39 _ 1 1 _ rfl (rd_lit rfl rfl) (bls_one _) (fun h => by cases h)) (by have := HL.out; simp only [maxLen]; omega) (by have := HL.out; omega) (by have := X.size; simp; omega) ?_; intro v' w5 hown5 hgrow hat hbel))
      go_roundw
      case rel => exact ⟨k + 1, by omega, by go_num, by rw [HE.out, bls_app]; exact hown5, (Ext.new X _).trans hbel⟩
      case measure => simp [intOf]; omega
    · obtain rfl : k = n := by omega
      obtain ⟨B, c, rfl, hrd, hB, hc, hcm⟩ := Rd.owned hown
      have HRD := hid hrd
      clear hown hrd hB hc hcm
      go_wp2
      go_returns
      have e : l.take k = l := List.take_of_length_le (by rw [HN.out]; exact Nat.le_refl _)
      rw [e] at HRD
      exact ⟨B, c, rfl, HRD.out, X⟩
theorem notThere_any (c : Cel) (w : World) : Calls Tryz.prog 127 #[celV c] w fun e w' => e = .returned (.bool (decide (c.1 = 0))) ∧ Ext w w' := by
  have HT := hid (there_any c)
  obtain ⟨k, n, s⟩ := c
  go_enter Tryz.func127, Tryz.ntmps127
  go_wp2_with fail
  refine Calls.mono (HT.out _) ?_
  rintro e w1 ⟨rfl, hx⟩
  have HX := hid (Ext.then ((ext_refl w).new _) hx)
  clear hx
  go_wp2
  go_returns
  refine ⟨?_, HX.out⟩
  by_cases h : k = 0 <;> simp [h]
set_option maxHeartbeats 400000 in
theorem indexNull_any (l : List Cel) (A : Option Addr) (n cap : Nat) (w : World) (hn : l.length = n) (hr : Rd w A (cls l)) (hnl : n ≤ 140737488355328) :
    Calls Tryz.prog 162 #[.slice A n cap, .func (.func 127) #[] #[]] w fun e w' => (∃ r : Int, e = .returned (.int .i64 r) ∧ decide (0 ≤ r) = Cel.anyNull l) ∧ Ext w w' := by
  have HN := hid hn
  have HA := hid hr
  clear hr hn
  go_enter Tryz.func162, Tryz.ntmps162
  go_wp2
  go_loopw [5, 8] (fun _ c wr => ∃ k : Nat, k ≤ n ∧ c = .int .i64 k ∧ Hid (∀ i (h : i < l.length), i < k → l[i].1 ≠ 0) ∧ Ext w wr) (fun _ c _ => n - (intOf c).toNat)
  case atStart => exact ⟨0, Nat.zero_le _, rfl, hid fun i h h2 => absurd h2 (Nat.not_lt_zero _), ext_refl _⟩
  case round =>
    obtain ⟨k, hk, rfl, HT, X⟩ := hrel
    by_cases hlt : k < n
    · have hka : k < l.length := by rw [HN.out]; exact hlt
      obtain ⟨b1, o1, e1, l1, c1⟩ := HA.out.cels k hka
      subst e1
      have d0 := (X.cell (p := ⟨b1, o1 + k * 3, none⟩) l1).trans (c1 k hka).1
      have d1 := (X.cell (p := ⟨b1, o1 + k * 3 + 1, none⟩) l1).trans (c1 k hka).2.1
      have d2 := (X.cell (p := ⟨b1, o1 + k * 3 + 2, none⟩) l1).trans (c1 k hka).2.2
      have HC := hid (notThere_any l[k])
      have HX := hid X
      by_cases h0 : l[k].1 = 0
      · have hf : Cel.anyNull l = true := by
          unfold Cel.anyNull
          rw [List.any_eq_true]
          exact ⟨l[k], List.getElem_mem hka, by simp [h0]⟩
        have HF := hid hf
        rw [decide_eq_true h0] at HC
        generalize l[k] = c at *
        obtain ⟨kk, nn, ss⟩ := c
        clear c1 hka h0 hf X
        go_wp2_with fail
        refine Calls.mono (HC.out _) ?_
        rintro e w1 ⟨rfl, hx⟩
        replace HX := hid (HX.out.then hx)
        clear hx
        go_wp2
        go_returns
        exact ⟨⟨_, rfl, by rw [HF.out]; simp⟩, HX.out⟩
      · have HT2 : Hid (∀ i (h : i < l.length), i < k + 1 → l[i].1 ≠ 0) := hid fun i h h2 => by
          rcases Nat.lt_or_ge i k with h3 | h3
          · exact HT.out i h h3
          · have : i = k := by omega
            subst this
            exact h0
        rw [decide_eq_false h0] at HC
        generalize l[k] = c at *
        obtain ⟨kk, nn, ss⟩ := c
        clear c1 hka h0 X
        go_wp2_with fail
        refine Calls.mono (HC.out _) ?_
        rintro e w1 ⟨rfl, hx⟩
        replace HX := hid (HX.out.then hx)
        clear hx
        go_wp2
        go_roundw
        case rel => exact ⟨k + 1, by omega, by go_num, HT2, HX.out⟩
        case measure => simp [intOf]; omega
    · obtain rfl : k = n := by omega
      have hf : Cel.anyNull l = false := by
        unfold Cel.anyNull
        rw [List.any_eq_false]
        intro c hc
        obtain ⟨i, hi, rfl⟩ := List.getElem_of_mem hc
        simpa using HT.out i hi (by rw [← HN.out]; exact hi)
      have HFF := hid hf
      clear hf
      go_wp2
      go_returns
      exact ⟨⟨_, rfl, by rw [HFF.out]; rfl⟩, X⟩
theorem containsNull_any (l : List Cel) (A : Option Addr) (n cap : Nat) (w : World) (hn : l.length = n) (hr : Rd w A (cls l)) (hnl : n ≤ 140737488355328) :
    Calls Tryz.prog 126 #[.slice A n cap, .func (.func 127) #[] #[]] w fun e w' => e = .returned (.bool (Cel.anyNull l)) ∧ Ext w w' := by
  have C := hid (indexNull_any l A n cap w hn hr hnl)
  clear hn hr
  go_enter Tryz.func126, Tryz.ntmps126
  go_wp2_with fail
  refine Calls.mono C.out ?_
  rintro e w2 ⟨⟨r, rfl, hr⟩, hx⟩
  have HR := hid hr
  have HX := hid hx
  clear hr hx
  go_wp2
  go_returns
  exact ⟨by rw [← HR.out]; rfl, HX.out⟩
set_option maxHeartbeats 800000 in
theorem jcheck_any (kind : Int) (m : List Bool) (l : List Cel) (A B : Option Addr) (n k ca cb : Nat) (w : World) (hm : m.length = k) (hrm : Rd w A (bls m)) (hn : l.length = n) (hr : Rd w B (cls l)) (hkl : k ≤ 140737488355328) (hnl : n ≤ 140737488355328) :
    Calls Tryz.prog 82 #[.int .i64 kind, .slice A k ca, .slice B n cb] w fun e w' => e = .returned (.int .i64 (Cel.jchk kind m l : Nat)) ∧ Ext w w' := by
  have HC := hid (ncheck_any kind l B n cb w hn hr hnl)
  have HNU := hid (fun w' (hx : Ext w w') => containsNull_any l B n cb w' hn (hr.keep hx) hnl)
  have hkI : (k : Int) ≤ 140737488355328 := by omega
  by_cases h1 : Cel.cchk kind l = 0
  · have hj : Cel.jchk kind m l = if Cel.anyNull l = true then 7 else if 64 < k then 2 else if m.count true ≠ n then 1 else 0 := by
      unfold Cel.jchk; rw [if_neg (by rw [h1]; simp), hm, hn]
    rw [h1] at HC
    have HJ := hid hj
    have hn64 : n ≤ 64 := by rw [← hn]; exact (Cel.cchk_iff.1 h1).2.1
    clear h1 hj
    obtain ⟨q, hq⟩ : ∃ q, q = Cel.anyNull l := ⟨_, rfl⟩
    rw [← hq] at HJ HNU
    clear hq
    cases q with
    | true =>
      clear hm hrm hn hr
      go_enter Tryz.func82, Tryz.ntmps82
      go_wp2_with fail
      refine Calls.mono HC.out ?_
      rintro e w1 ⟨rfl, hx⟩
      have HX := hid hx
      clear hx
      go_wp2_with fail
      refine Calls.mono (HNU.out _ HX.out) ?_
      rintro e w2 ⟨rfl, hx⟩
      replace HX := hid (HX.out.then hx)
      clear hx
      go_wp2
      go_returns
      exact ⟨by rw [HJ.out]; rfl, HX.out⟩
    | false =>
      by_cases h64 : k ≤ 64
      · have HCO := hid (fun w' (hx : Ext w w') => count_any m A k ca w' hm (hrm.keep hx) (by omega))
        have hcl : m.count true ≤ k := by rw [← hm]; exact List.count_le_length
        obtain ⟨c, hc⟩ : ∃ c, c = m.count true := ⟨_, rfl⟩
        rw [← hc] at HJ HCO hcl
        have h64I : (k : Int) ≤ 64 := by omega
        have hcI : (c : Int) ≤ 64 := by omega
        have hJ2 := hid (HJ.out.trans (by rw [if_neg (by simp), if_neg (by omega)]))
        by_cases hcn : c = n
        · have e1 : ((c : Int) == (n : Int)) = true := by simp [hcn]
          have e2 : ((c : Int) != (n : Int)) = false := by simp [hcn]
          have HCN := hid hcn
          clear hm hrm hn hr HJ hc hcl hcn h64 hkl hnl hn64
          go_enter Tryz.func82, Tryz.ntmps82
          go_wp2_with fail
          refine Calls.mono HC.out ?_
          rintro e w1 ⟨rfl, hx⟩
          have HX := hid hx
          clear hx
          go_wp2_with fail
          refine Calls.mono (HNU.out _ HX.out) ?_
          rintro e w2 ⟨rfl, hx⟩
          replace HX := hid (HX.out.then hx)
          clear hx
          go_wp2_with fail
          refine Calls.mono (HCO.out _ HX.out) ?_
          rintro e w3 ⟨rfl, hx⟩
          replace HX := hid (HX.out.then hx)
          clear hx
          go_wp2
          go_returns
          exact ⟨by rw [hJ2.out, if_neg (by rw [HCN.out]; simp)]; rfl, HX.out⟩
        · have e1 : ((c : Int) == (n : Int)) = false := by rw [beq_eq_false_iff_ne]; omega
          have e2 : ((c : Int) != (n : Int)) = true := by rw [bne_iff_ne]; omega
          have HCN := hid hcn
          clear hm hrm hn hr HJ hc hcl hcn h64 hkl hnl hn64
          go_enter Tryz.func82, Tryz.ntmps82
          go_wp2_with fail
          refine Calls.mono HC.out ?_
          rintro e w1 ⟨rfl, hx⟩
          have HX := hid hx
          clear hx
          go_wp2_with fail
          refine Calls.mono (HNU.out _ HX.out) ?_
          rintro e w2 ⟨rfl, hx⟩
          replace HX := hid (HX.out.then hx)
          clear hx
          go_wp2_with fail
          refine Calls.mono (HCO.out _ HX.out) ?_
          rintro e w3 ⟨rfl, hx⟩
          replace HX := hid (HX.out.then hx)
          clear hx
          go_wp2
          go_returns
          exact ⟨by rw [hJ2.out, if_pos HCN.out]; rfl, HX.out⟩
      · have h64I : (64 : Int) < (k : Int) := by omega
        have hJ2 := hid (HJ.out.trans (by rw [if_neg (by simp), if_pos (by omega)]))
        clear hm hrm hn hr HJ h64 hkl hnl hn64
        go_enter Tryz.func82, Tryz.ntmps82
        go_wp2_with fail
        refine Calls.mono HC.out ?_
        rintro e w1 ⟨rfl, hx⟩
        have HX := hid hx
        clear hx
        go_wp2_with fail
        refine Calls.mono (HNU.out _ HX.out) ?_
        rintro e w2 ⟨rfl, hx⟩
        replace HX := hid (HX.out.then hx)
        clear hx
        go_wp2
        go_returns
        exact ⟨by rw [hJ2.out]; rfl, HX.out⟩
  · have HJ := hid (show Cel.jchk kind m l = Cel.cchk kind l from by unfold Cel.jchk; rw [if_pos h1])
    obtain ⟨c, hc⟩ : ∃ c, c = Cel.cchk kind l := ⟨_, rfl⟩
    have hne : ((c : Int) == 0) = false := by rw [beq_eq_false_iff_ne]; omega
    have hne2 : ((c : Int) != 0) = true := by rw [bne_iff_ne]; omega
    rw [← hc] at HC HJ
    clear hm hrm hn hr h1 hc
    go_enter Tryz.func82, Tryz.ntmps82
    go_wp2_with fail
    refine Calls.mono HC.out ?_
    rintro e w1 ⟨rfl, hx⟩
    have HX := hid hx
    clear hx
    go_wp2
    go_returns
    exact ⟨by rw [HJ.out]; rfl, HX.out⟩
end Go.Proofs.YthgnipangcmanaaGreat
end
section
namespace Hy.Cel
def jat (m : List Bool) (l : List Cel) (i : Nat) : Cel := if m.getD i false = true then l.getD ((m.take i).count true) O else O
@[irreducible] def jn (m : List Bool) (l : List Cel) : List Cel := (List.range m.length).map (jat m l)
theorem jn_len (m : List Bool) (l : List Cel) : (jn m l).length = m.length := by unfold jn; simp
theorem jn_take (m : List Bool) (l : List Cel) (i : Nat) (h : i < m.length) : (jn m l).take (i + 1) = (jn m l).take i ++ [jat m l i] := by
  rw [List.take_succ_eq_append_getElem (by rw [jn_len]; exact h)]
  unfold jn; simp
theorem jat_yes (m : List Bool) (l : List Cel) (i : Nat) (h : i < m.length) (hm : m[i] = true) (hp : (m.take i).count true < l.length) : jat m l i = l[(m.take i).count true] := by
  unfold jat
  rw [List.getD_eq_getElem?_getD, List.getElem?_eq_getElem h, Option.getD_some, if_pos hm, List.getD_eq_getElem?_getD, List.getElem?_eq_getElem hp, Option.getD_some]
theorem jat_no (m : List Bool) (l : List Cel) (i : Nat) (h : i < m.length) (hm : m[i] = false) : jat m l i = O := by
  unfold jat
  rw [List.getD_eq_getElem?_getD, List.getElem?_eq_getElem h, Option.getD_some, if_neg (by rw [hm]; simp)]
def jout (kind : Int) (m : List Bool) (l : List Cel) : List Cel := if jchk kind m l = 0 then jn m l else []
theorem jchk_ok {kind : Int} {m : List Bool} {l : List Cel} (h : jchk kind m l = 0) : cchk kind l = 0 ∧ anyNull l = false ∧ m.length ≤ 64 ∧ m.count true = l.length := by
  unfold jchk at h
  by_cases h1 : cchk kind l = 0
  · rw [if_neg (by simp [h1])] at h
    by_cases h2 : anyNull l = true
    · rw [if_pos h2] at h; cases h
    · rw [if_neg h2] at h
      by_cases h3 : 64 < m.length
      · rw [if_pos h3] at h; cases h
      · rw [if_neg h3] at h
        by_cases h4 : m.count true ≠ l.length
        · rw [if_pos h4] at h; cases h
        · exact ⟨h1, by simpa using h2, by omega, by simpa using h4⟩
  · rw [if_pos h1] at h; exact absurd h h1
theorem count_to (m : List Bool) (i : Nat) : (m.take i).count true ≤ m.count true := (List.take_sublist i m).count_le true
theorem count_at (m : List Bool) (i : Nat) (h : i < m.length) (hm : m[i] = true) : (m.take i).count true < m.count true := by
  have h1 := count_take m i h
  have h2 := count_to m (i + 1)
  rw [hm] at h1
  simp only [if_true] at h1
  omega
end Hy.Cel
namespace Go.Proofs.YthgnipangcmanaaGreat
open Go.RowKit Hy
set_option maxHeartbeats 2000000 in
theorem join_yes (kind : Int) (m : List Bool) (l : List Cel) (A B : Option Addr) (n k ca cb : Nat) (w : World) (hm : m.length = k) (hrm : Rd w A (bls m)) (hn : l.length = n) (hr : Rd w B (cls l)) (hcap : n ≤ cb) (hj : Cel.jchk kind m l = 0) :
    Calls Tryz.prog 56 #[.int .i64 kind, .slice A k ca, .slice B n cb] w fun e w' => ∃ C c, e = .returned (.tuple #[.slice C k c, .int .i64 0]) ∧ Rd w' C (cls (Cel.jn m l)) ∧ Ext w w' := by
  obtain ⟨j1, j2, j3, j4⟩ := Cel.jchk_ok hj
  have hk64 : k ≤ 64 := by rw [← hm]; exact j3
  have hnk : n ≤ 64 := by rw [← hn, ← j4]; exact Nat.le_trans List.count_le_length j3
  have HC := hid (jcheck_any kind m l A B n k ca cb w hm hrm hn hr (by omega) (by omega))
  rw [hj] at HC
  have HM := hid hm; have HN := hid hn; have HRM := hid hrm; have HR := hid hr; have HCO := hid j4; have HCAP := hid hcap
  have hkI : (k : Int) ≤ 64 := by omega
  have hk64' := hid hk64
  clear hm hn hrm hr hj j1 j2 j3 j4 hcap hk64
  go_enter Tryz.func56, Tryz.ntmps56
  go_wp2_with fail
  refine Calls.mono HC.out ?_
  rintro e w0 ⟨rfl, hx⟩
  have X0 := hid hx
  clear hx
  go_wp2
  go_loopw [2, 9, 22] (fun lv ov c wr => ∃ i : Nat, i ≤ k ∧ c = .int .i64 i ∧ (∃ B', lv = .slice B' (n - (m.take i).count true) (cb - (m.take i).count true) ∧ Rd w B' (cls (l.drop ((m.take i).count true)))) ∧ wr.ownsRow w0.heap.size 48 3 ov i (cls ((Cel.jn m l).take i)) ∧ Ext w0 wr) (fun _ _ c _ => k - (intOf c).toNat)
  case atStart => exact ⟨0, Nat.zero_le _, rfl, ⟨B, rfl, HR.out⟩, World.ownsRow_nil _ _ _ _, ext_refl _⟩
  case round =>
    obtain ⟨i, hi, rfl, ⟨B', rfl, hB'⟩, hown, X⟩ := hrel
    by_cases hlt : i < k
    · have hia : i < m.length := by rw [HM.out]; exact hlt
      obtain ⟨b1, o1, e1, l1, c1⟩ := HRM.out.bool (by omega)
      subst e1
      have XX := X0.out.then X
      have dm := (XX.cell (p := ⟨b1, o1 + i, none⟩) l1).trans (c1 i hia)
      obtain ⟨b, hb⟩ : ∃ b, b = m[i] := ⟨_, rfl⟩
      rw [← hb] at dm
      have HT := hid (Cel.jn_take m l i hia)
      have HCT := hid (count_take m i hia)
      rw [← hb] at HCT
      have HOWN := hid hown
      have HX := hid X
      cases b with
      | false =>
        have HE := hid (Cel.jat_no m l i hia hb.symm)
        rw [HE.out] at HT
        have HCT2 : Hid ((m.take (i + 1)).count true = (m.take i).count true) := hid (by rw [HCT.out]; rfl)
        obtain ⟨p, hp⟩ : ∃ p, p = (m.take i).count true := ⟨_, rfl⟩
        rw [← hp] at HCT2 hB' ⊢
        obtain ⟨q1, hq1⟩ : ∃ q, q = n - p := ⟨_, rfl⟩
        obtain ⟨q2, hq2⟩ : ∃ q, q = cb - p := ⟨_, rfl⟩
        rw [← hq1, ← hq2]
        have HB := hid hB'
        have HQ1 := hid hq1; have HQ2 := hid hq2
        clear HCT HE hia c1 l1 hb hp hown X XX hB' hq1 hq2
        generalize (Cel.jn m l).take i = D at *
        go_wp2_with (at_builtin; go_loud (refine wpList_app rfl (.tmp 32) (.tmp 34) rowCl rfl _ i (cls D) rfl (own_ext HOWN.out (Ext.new (Ext.new (ext_refl _) _) _)) _ 1 (cls [Cel.O]) rfl (Src.rd Tryz.underlying22 _ 1 1 _ rfl (rd_lit (by simp) rfl) (cls_one _) (fun h => by cases h)) (by have := hk64'.out; simp only [maxLen]; omega) (by have := hk64'.out; omega) (by have := HX.out.size; simp; omega) ?_; intro v' w5 hown5 hgrow hat hbel))
        go_roundw
        case rel => exact ⟨i + 1, by omega, by go_num, ⟨B', by rw [HCT2.out, HQ1.out, HQ2.out], by rw [HCT2.out]; exact HB.out⟩, by rw [HT.out, cls_app]; exact hown5, ((Ext.new (Ext.new HX.out _) _).trans hbel)⟩
        case measure => simp [intOf]; omega
      | true =>
        have hpn : (m.take i).count true < n := by rw [← HN.out, ← HCO.out]; exact Cel.count_at m i hia hb.symm
        have HE := hid (Cel.jat_yes m l i hia hb.symm (by rw [HN.out]; exact hpn))
        rw [HE.out] at HT
        have HCT2 : Hid ((m.take (i + 1)).count true = (m.take i).count true + 1) := hid (by rw [HCT.out]; rfl)
        obtain ⟨p, hp⟩ : ∃ p, p = (m.take i).count true := ⟨_, rfl⟩
        simp only [← hp] at HCT2 hB' HT hpn ⊢
        obtain ⟨b2, o2, e2, l2, c2⟩ := hB'.cels 0 (by rw [List.length_drop, HN.out]; omega)
        subst e2
        have q := c2 0 (by rw [List.length_drop, HN.out]; omega)
        simp only [List.getElem_drop, Nat.add_zero, Nat.zero_mul] at q
        obtain ⟨cc, hcc⟩ : ∃ cc, cc = l[p]'(by rw [HN.out]; exact hpn) := ⟨_, rfl⟩
        rw [← hcc] at q HT
        obtain ⟨ck, cn, cs⟩ := cc
        have d0 := (XX.cell (p := ⟨b2, o2, none⟩) l2).trans q.1
        have d1 := (XX.cell (p := ⟨b2, o2 + 1, none⟩) l2).trans q.2.1
        have d2 := (XX.cell (p := ⟨b2, o2 + 2, none⟩) l2).trans q.2.2
        obtain ⟨q1, hq1⟩ : ∃ q, q = n - p := ⟨_, rfl⟩
        obtain ⟨q2, hq2⟩ : ∃ q, q = cb - p := ⟨_, rfl⟩
        have HB := hid (Rd.from (f := cel3) (m := 3) (fun _ => rfl) hB' 1 q2 (by rw [List.length_drop, HN.out, hq2]; have := HCAP.out; omega))
        have hsl := fun wx : World => sl_from (P := Tryz.prog) (t := 22) (e := 48) (m := 3) Tryz.underlying22 (by kernel_rfl) (some ⟨b2, o2, none⟩) q1 q2 .i64 1 (by omega) wx
        rw [← hq1, ← hq2]
        obtain ⟨B2, hB2⟩ : ∃ B2, B2 = slF (some ⟨b2, o2, none⟩) 1 q2 3 := ⟨_, rfl⟩
        rw [← hB2] at HB hsl
        have hsl' : ∀ wx : World, (Instr.sliceAt 22 (.slice (some ⟨b2, o2, none⟩) q1 q2) (some (.int .i64 1)) none none).run Tryz.prog wx = .ok (.slice B2 (q1 - 1) (q2 - 1)) wx := hsl
        have hq0 : 0 < q1 := by omega
        have HQ1 := hid hq1; have HQ2 := hid hq2
        have HG := hid (own_not hown (Nat.le_refl _))
        clear HCT HE hia c1 l1 hb hp hown X XX hB' hq1 hq2 c2 q hcc hB2 hsl hpn l2
        generalize (Cel.jn m l).take i = D at *
        go_wp2_with fail
        have d0r := cell_regrown d0
        have d1r := cell_regrown d1
        have d2r := cell_regrown d2
        refine wp_region_plan (w0 := wr) [0, 1, 2, 3, 4] [5, 6] ((ext_refl _).new _) (by kernel_rfl) (by kernel_rfl) (fun _ _ _ _ _ h => h) (by kernel_rfl) (by kernel_rfl) (by rfl) ?_
        simp only [List.filterMap_cons, List.filterMap_nil, List.getElem?_toArray, List.getElem?_cons_zero, List.getElem?_cons_succ]
        repeat (refine wpG_val (by rfl) (by rfl) ?_; intro K hK; go_big_quiet_op; go_big_quiet_on)
        refine wpG_nil ?_
        intro w5 X5
        have HBZ := hid ((Blk.new wr 48 #[.int .i64 0, .int .u64 0, .string ⟨#[]⟩]).keep X5)
        have HX5 := hid (Ext.then ((ext_refl wr).new (.cells #[.int .i64 0, .int .u64 0, .string ⟨#[]⟩] 48)) X5)
        clear X5 dm d0r d1r d2r
        refine wpT_store rfl 48 (.tmp 12) (.tmp 29) rfl wr.heap.size (celA (ck, cn, cs)) rfl rfl 48 _ HBZ.out (by kernel_rfl) rfl (by simp [Value.oneCell']) (Nat.le_refl _) HX5.out ?_
        intro w6 hB6 hF6 hL6
        refine wpT_assign rfl (.tmp 31) (.slice B2 (q1 - 1) (q2 - 1)) rfl rfl hL6 ?_
        refine wpT_nil ?_
        simp only [Act.put, List.setIfInBounds_toArray, List.set_cons_zero, List.set_cons_succ]
        have HB6 := hid hB6
        have HO6 := hid (own_far (own_ext HOWN.out HX5.out) HG.out hF6)
        have HX6 : Hid (Ext wr w6) := hid hL6
        obtain ⟨z0, z1, z2⟩ := hB6.c3
        clear hB6 hF6 hL6 d0 d1 d2 hsl'
        go_wp2_with (at_builtin; go_loud (refine wpList_app rfl (.tmp 32) (.tmp 34) rowCl rfl _ i (cls D) rfl (own_ext HO6.out (Ext.new (ext_refl _) _)) _ 1 (cls [(ck, cn, cs)]) rfl (Src.rd Tryz.underlying22 _ 1 1 _ rfl (rd_lit rfl rfl) (cls_one _) (fun h => by cases h)) (by have := hk64'.out; simp only [maxLen]; omega) (by have := hk64'.out; omega) (by have := HX.out.size; have := HX6.out.size; simp; omega) ?_; intro v' w7 hown7 hgrow hat hbel))
        go_roundw
        case rel => exact ⟨i + 1, by omega, by go_num, ⟨B2, by rw [HCT2.out]; congr 1 <;> (first | (have := HQ1.out; omega) | (have := HQ2.out; omega)), by rw [HCT2.out]; have := HB.out; rw [List.drop_drop] at this; exact this⟩, by rw [HT.out, cls_app]; exact hown7, (Ext.new (HX.out.then HX6.out) _).trans hbel⟩
        case measure => simp [intOf]; omega
    · obtain rfl : i = k := by omega
      obtain ⟨C, c, rfl, hrd, hB, hc, hcm⟩ := Rd.owned hown
      have HRD := hid hrd
      have HX := hid (X0.out.then X)
      clear hown hrd hB hc hcm X hB'
      go_wp2
      go_returns
      have e : (Cel.jn m l).take i = Cel.jn m l := List.take_of_length_le (by rw [Cel.jn_len, HM.out]; exact Nat.le_refl _)
      rw [e] at HRD
      exact ⟨C, c, rfl, HRD.out, HX.out⟩
end Go.Proofs.YthgnipangcmanaaGreat
end
section
namespace Hy.Cel
theorem dense_any (l : List Cel) : (dense l).length < l.length ↔ anyNull l = true := by
  unfold dense anyNull
  induction l with
  | nil => simp
  | cons c l ih =>
    by_cases h : c.1 = 0
    · simp only [List.filter_cons, List.any_cons, h, ne_eq, not_true, decide_false, decide_true, Bool.true_or, iff_true, List.length_cons]
      have := List.length_filter_le (fun c : Cel => decide ¬c.1 = 0) l
      simp only [if_neg (show ¬ (false = true) from by simp)]
      omega
    · simp only [List.filter_cons, List.any_cons, h, ne_eq, not_false_eq_true, decide_true, decide_false, Bool.false_or, if_true, List.length_cons]
      simp only [ne_eq] at ih
      rw [← ih]; omega
end Hy.Cel
namespace Go.Proofs.YthgnipangcmanaaGreat
open Go.RowKit Hy
set_option maxHeartbeats 1000000 in
theorem join_any (kind : Int) (m : List Bool) (l : List Cel) (A B : Option Addr) (n k ca cb : Nat) (w : World) (hm : m.length = k) (hrm : Rd w A (bls m)) (hn : l.length = n) (hr : Rd w B (cls l)) (hcap : n ≤ cb) (hkl : k ≤ 140737488355328) (hnl : n ≤ 140737488355328) :
    Calls Tryz.prog 56 #[.int .i64 kind, .slice A k ca, .slice B n cb] w fun e w' => ∃ C c, e = .returned (.tuple #[.slice C (Cel.jout kind m l).length c, .int .i64 (Cel.jchk kind m l : Nat)]) ∧ Rd w' C (cls (Cel.jout kind m l)) ∧ Ext w w' := by
  by_cases hj : Cel.jchk kind m l = 0
  · refine (join_yes kind m l A B n k ca cb w hm hrm hn hr hcap hj).mono ?_
    rintro e w' ⟨C, c, rfl, h1, h2⟩
    have e : Cel.jout kind m l = Cel.jn m l := by unfold Cel.jout; rw [if_pos hj]
    rw [e, hj, Cel.jn_len, hm]
    exact ⟨C, c, rfl, h1, h2⟩
  · have e : Cel.jout kind m l = [] := by unfold Cel.jout; rw [if_neg hj]
    have HC := hid (jcheck_any kind m l A B n k ca cb w hm hrm hn hr hkl hnl)
    rw [e]
    obtain ⟨c, hc⟩ : ∃ c, c = Cel.jchk kind m l := ⟨_, rfl⟩
    rw [← hc] at HC ⊢
    have hne : ((c : Int) == 0) = false := by rw [beq_eq_false_iff_ne]; omega
    have hne2 : ((c : Int) != 0) = true := by rw [bne_iff_ne]; omega
    clear hm hrm hn hr hj e hc
    go_enter Tryz.func56, Tryz.ntmps56
    go_wp2_with fail
    refine Calls.mono HC.out ?_
    rintro e w1 ⟨rfl, hx⟩
    have HX := hid hx
    clear hx
    go_wp2
    go_returns
    exact ⟨none, 0, rfl, fun h => absurd h (by simp [cls]), HX.out⟩
end Go.Proofs.YthgnipangcmanaaGreat
end
