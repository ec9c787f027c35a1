/- Texts of this claim, put together: walks and plain laws. -/
import Derived.Test.YtdmmodeplfmpnaaGreatZP1
import Derived.Test.YtdmmodeplfmpnaaGreatZB1
import Derived.Test.YtdmmodeplfmpnaaGreatZV1
section
namespace Hy.Pat
open Go
def wrt (l : List Nat) : List UInt8 × Nat := if 64 < l.length then ([], 2) else (bys l, 0)
theorem tl_at {w : Nat} {M : List Nat} {i x : Nat} (h : M[i]? = some x) (hx : w < Lib.bitLen x) : tl w 0 (M.take (i + 1)) = tl w 0 (M.take i) ++ ([UInt8.ofNat i] ++ Vary.wr x) := by
  have hi : i < M.length := (List.getElem?_eq_some_iff.1 h).1
  rw [take_succ_snoc' h, tl_snoc, if_pos hx, List.length_take, Nat.min_eq_left (by omega), Nat.zero_add]; rfl
theorem tl_no {w : Nat} {M : List Nat} {i x : Nat} (h : M[i]? = some x) (hx : ¬ w < Lib.bitLen x) : tl w 0 (M.take (i + 1)) = tl w 0 (M.take i) := by
  rw [take_succ_snoc' h, tl_snoc, if_neg hx, List.append_nil]
theorem cnt_at {w : Nat} {M : List Nat} {i x : Nat} (h : M[i]? = some x) (hx : w < Lib.bitLen x) : cnt w (M.take (i + 1)) = cnt w (M.take i) + 1 := by
  rw [take_succ_snoc' h, cnt_snoc, if_pos hx]
theorem cnt_no {w : Nat} {M : List Nat} {i x : Nat} (h : M[i]? = some x) (hx : ¬ w < Lib.bitLen x) : cnt w (M.take (i + 1)) = cnt w (M.take i) := by
  rw [take_succ_snoc' h, cnt_snoc, if_neg hx, Nat.add_zero]
theorem inn_at {w : Nat} {M : List Nat} {i x : Nat} (h : M[i]? = some x) (hx : w < Lib.bitLen x) : (inn w (M.take i) ++ M.drop i).set i 0 = inn w (M.take (i + 1)) ++ M.drop (i + 1) := by
  have hi : i < M.length := (List.getElem?_eq_some_iff.1 h).1
  have e : M[i] = x := (List.getElem?_eq_some_iff.1 h).2
  rw [List.set_append_right _ _ (by rw [inn_len, List.length_take]; omega), inn_len, List.length_take, Nat.min_eq_left (by omega), Nat.sub_self, List.drop_eq_getElem_cons hi, List.set_cons_zero, take_succ_snoc' h]
  unfold inn
  rw [List.map_append, List.append_assoc]
  simp [hx]
theorem inn_no {w : Nat} {M : List Nat} {i x : Nat} (h : M[i]? = some x) (hx : ¬ w < Lib.bitLen x) : inn w (M.take i) ++ M.drop i = inn w (M.take (i + 1)) ++ M.drop (i + 1) := by
  have hi : i < M.length := (List.getElem?_eq_some_iff.1 h).1
  have e : M[i] = x := (List.getElem?_eq_some_iff.1 h).2
  rw [List.drop_eq_getElem_cons hi, take_succ_snoc' h]
  unfold inn
  rw [List.map_append, List.append_assoc]
  simp [hx, e]
end Hy.Pat
namespace Go.Proofs.YtdmmodeplfmpnaaGreat
open Go.RowKit Hy
set_option maxRecDepth 100000 in
set_option maxHeartbeats 6400000 in
theorem pWrite_any (l : List Nat) (A : Option Addr) (n cap : Nat) (w : World) (hn : l.length = n) (hr : Rd w A (u64s l)) (hl : ∀ x ∈ l, x < 18446744073709551616) (hnl : n ≤ 9223372036854775806) :
    Calls Tryz.prog 25 #[.slice A n cap] w fun e w' => e = .returned (.tuple #[.string ⟨(Pat.wrt l).1.toArray⟩, .int .i64 (Pat.wrt l).2]) ∧ Ext w w' := by
  unfold Pat.wrt
  have hnI : (n : Int) ≤ 9223372036854775806 := by omega
  by_cases h64 : 64 < n
  · rw [if_pos (by omega)]
    have h6I : 64 < (n : Int) := by omega
    clear hr hl hn hnl h64
    go_enter Tryz.func25, Tryz.ntmps25
    go_wp2
    go_returns
    exact ⟨rfl, ext_refl _⟩
  · rw [if_neg (by omega)]
    have HFD := hid (framed_any l A n cap w hn hr hl (by omega))
    have hbl := Pat.bas_lt l hl
    have hml := Pat.mor_lt l hl
    have hmn := Pat.mor_len l
    have hBY := Pat.bys_eq l
    obtain ⟨b, hb⟩ : ∃ b, b = Pat.bas l := ⟨_, rfl⟩
    obtain ⟨M, hM⟩ : ∃ M, M = Pat.mor l := ⟨_, rfl⟩
    rw [← hb] at HFD hbl
    rw [← hb, ← hM] at hBY
    rw [← hM] at HFD hml hmn
    rw [hn] at hmn
    have hwb := Pat.bst_le M 64
    have HBE := hid (fun (B : Option Addr) (c : Nat) (wx : World) (h : Rd wx B (u64s M)) => best_any M B n c b wx hmn h hml (by omega))
    obtain ⟨wd, hwd⟩ : ∃ wd, wd = Pat.bst M 64 := ⟨_, rfl⟩
    rw [← hwd] at hBY HBE hwb
    have HCL := hid (fun (B : Option Addr) (c : Nat) (wx : World) (h : Rd wx B (u64s M)) (hB : B = none → n = 0) => cloneN_any M B n c wx hmn h hB (by omega))
    have HOUT := hid (fun x (hx : x ∈ M) wx => out_any x wd wx (hml x hx))
    have HWR := hid (fun x (hx : x ∈ M) wx => write_any x wx (hml x hx))
    have HVB := hid (fun wx => write_any b wx hbl)
    have HRW := hid (fun (B : Option Addr) (c : Nat) (wx : World) (h : Rd wx B (u64s (Pat.inn wd M))) => braw_any (Pat.inn wd M) B n c wd wx (by rw [Pat.inn_len, hmn]) h (Pat.inn_lt wd M hwb hml) (by omega) hwb)
    have HMN := hid hmn
    have hwI : (wd : Int) ≤ 64 := by omega
    have hbI : (b : Int) ≤ 18446744073709551615 := by omega
    have hnI2 : (n : Int) ≤ 64 := by omega
    have HBY := hid hBY
    have HML := hid hml
    have HN64 := hid (show n ≤ 64 by omega)
    have HPL := hid (Bits.packed_len (Pat.inn wd M) wd)
    have HXL := hid (fun i => Pat.xt_le wd (M.take i))
    have HTLL := hid (fun i => Pat.tl_len wd (M.take i) 0)
    have HCNL := hid (fun i => Pat.cnt_le wd (M.take i))
    clear hn hr hl hnl hnI h64 hbl hml hmn hb hM hwb hwd hBY
    go_enter Tryz.func25, Tryz.ntmps25
    go_wp2_with fail
    refine Calls.mono HFD.out ?_
    rintro e w1 ⟨B, c, rfl, hrd, hx, _⟩
    have HBN := hid (show B = none → n = 0 from fun e => by
      rcases Nat.eq_zero_or_pos n with h | h
      · exact h
      · obtain ⟨b2, o2, e2, _⟩ := hrd (by rw [u64s_len, HMN.out]; exact h)
        rw [e] at e2; cases e2)
    have HRD1 := hid (hrd.keep ((ext_refl w1).new (.cells #[.int .u64 b, .slice B n c] 67)))
    have HX1 := hid (Ext.new hx (.cells #[.int .u64 b, .slice B n c] 67))
    have HB1 := hid (Blk.new w1 67 #[.int .u64 b, .slice B n c])
    clear hrd hx
    go_wp2_with fail
    refine Calls.mono (HBE.out B c _ HRD1.out) ?_
    rintro e w2 ⟨rfl, hx⟩
    have HRD2 := hid (HRD1.out.keep hx)
    have HX2 := hid (HX1.out.then hx)
    have hB2 := HB1.out.keep hx
    have HB2 := hid hB2
    have hc0 := hB2.cell 0
    have hc1 := hB2.cell 1
    clear hx hB2 HRD1 HX1 HB1
    go_wp2_with fail
    refine Calls.mono (HCL.out B c _ HRD2.out HBN.out) ?_
    rintro e w3 ⟨v, rfl, hown, hx⟩
    have HX3 := hid hx
    have HO3 := hid hown
    have hB3 := HB2.out.keep hx
    have hc0 := hB3.cell 0
    have hc1 := hB3.cell 1
    obtain ⟨V, cv, rfl, _⟩ := Rd.owned HO3.out
    clear hx hB3 hown
    go_wp2
    go_loopw [7, 8, 24] (fun t8 cq ix wr => ∃ i, i ≤ n ∧ ix = .int .i64 i ∧ t8 = .string ⟨(Pat.tl wd 0 (M.take i)).toArray⟩ ∧ cq = .int .i64 (Pat.cnt wd (M.take i) : Nat) ∧ Hid (wr.ownsRow w2.heap.size 39 1 (.slice V n cv) n (u64s (Pat.inn wd (M.take i) ++ M.drop i))) ∧ Hid (Ext w2 wr)) (fun _ _ ix _ => n - (intOf ix).toNat)
    case atStart => exact ⟨0, Nat.zero_le _, rfl, rfl, rfl, HO3, HX3⟩
    case round =>
      obtain ⟨i, hi, rfl, rfl, rfl, HO, HX⟩ := hrel
      have hc0 := (HB2.out.keep HX.out).cell 0
      by_cases hlt : i < n
      · have hltI : (i : Int) < (n : Int) := by omega
        obtain ⟨x, hx⟩ : ∃ x, M[i]? = some x := ⟨_, List.getElem?_eq_getElem (by rw [HMN.out]; exact hlt)⟩
        have hmem := List.mem_of_getElem? hx
        have hxl := HML.out x hmem
        have hxI : (x : Int) ≤ 18446744073709551615 := by omega
        obtain ⟨b1, o1, e1, l1, c1⟩ := (HRD2.out.keep HX.out).num00 (by rw [HMN.out]; omega)
        subst e1
        have d0 := c1 i x hx
        have CO := hid (HOUT.out x hmem)
        obtain ⟨XT, hXT⟩ : ∃ S : ByteArray, S = ⟨(Pat.tl wd 0 (M.take i)).toArray⟩ := ⟨_, rfl⟩
        have htll := HTLL.out i
        have hxtl := HXL.out i
        have hcl := HCNL.out i
        have htk : (M.take i).length ≤ n := by rw [List.length_take]; omega
        have hXs : XT.size ≤ 640 := by rw [hXT, str_size]; have := HN64.out; omega
        have hcI : ((Pat.cnt wd (M.take i) : Nat) : Int) ≤ 64 := by have := HN64.out; omega
        rw [← hXT]
        have HXT := hid hXT
        by_cases ho : wd < Lib.bitLen x
        · rw [decide_eq_true ho] at CO
          have HTL := hid (Pat.tl_at hx ho)
          have HCN := hid (Pat.cnt_at hx ho)
          have HIN := hid (show u64s (Pat.inn wd (M.take (i + 1)) ++ M.drop (i + 1)) = _ from congrArg u64s (Pat.inn_at hx ho).symm)
          rw [← u64s_set] at HIN
          have HV := hid (fun wx => HWR.out x hmem wx)
          have hvl := Vary.wr_len x
          have hv8 := Vary.beh_le8 x
          obtain ⟨g3, c3, hv3, hbg, hg3, cur, hb3⟩ := own_base HO.out (by omega)
          cases hv3
          have f0 := HO.out.frozenAt i
          have d3 := HO.out.cellAt i (by omega)
          have hd3 : (u64s (Pat.inn wd (M.take i) ++ M.drop i))[i]? = some (.int .u64 (x : Int)) := by
            unfold u64s
            rw [List.getElem?_map, List.getElem?_append_right (by rw [Pat.inn_len, List.length_take]; omega), Pat.inn_len, List.length_take, Nat.min_eq_left (by rw [HMN.out]; omega), Nat.sub_self, List.getElem?_drop, Nat.add_zero, hx]; rfl
          rw [hd3] at d3
          obtain ⟨X2b, hX2b⟩ : ∃ S : ByteArray, S = ⟨[UInt8.ofNat i].toArray⟩ := ⟨_, rfl⟩
          obtain ⟨X3b, hX3b⟩ : ∃ S : ByteArray, S = ⟨(Vary.wr x).toArray⟩ := ⟨_, rfl⟩
          rw [← hX3b] at HV
          have hz2 : X2b.size = 1 := by rw [hX2b]; rfl
          have hz3 : X3b.size ≤ 9 := by rw [hX3b, str_size]; omega
          have HX2 := hid hX2b
          have HX3 := hid hX3b
          have HWB := hid (show (#[Value.int .u8 (i : Int)] : Array Value).toList = u8s [UInt8.ofNat i] by simp [u8s]; have := HN64.out; omega)
          have hiu : IntKind.u8.wrap (i : Int) = (i : Int) := by rw [IntKind.wrap_u8]; have := HN64.out; omega
          have hown5 := own_set HO.out rfl i (.int .u64 0)
          clear hx hmem hxl c1 hXT htll hxtl hcl htk hX2b hX3b hvl hv8 hb3 hg3 hbg ho hd3
          generalize Pat.cnt wd (M.take i) = q at *
          go_wp2_with fail
          refine Calls.mono (CO.out _) ?_
          rintro e _ ⟨rfl, rfl⟩
          go_wp2
          refine wp_gen (fun w' => w'.ownsRow w2.heap.size 39 1 (.slice (some ⟨g3, 0, none⟩) n cv) n ((u64s (Pat.inn wd (M.take i) ++ M.drop i)).set i (.int .u64 0)) ∧ Ext w2 w') ⟨hown5, HX.out.put (p := ⟨g3, i, none⟩) (HO.out.lt g3 rfl).1 _⟩ ?_
          rintro w5 ⟨ho5, hx5⟩
          have HO5 := hid ho5
          have HX5 := hid hx5
          clear hown5 ho5 hx5 hc0 d0 f0 d3
          refine wp_region_tree (.one 0 true (.one 1 true (.one 2 true (.one 5 true (.two 3 6 (.two 4 6 (.one 6 false (.one 7 true (.one 8 true (.one 9 true (.nil))))) (.one 4 false (.one 7 true (.one 8 true (.one 9 true (.nil)))))) (.one 3 false (.one 4 false (.one 7 true (.one 8 true (.one 9 true (.nil))))))))))) (by kernel_rfl) (by kernel_rfl) (fun _ _ _ _ _ h => h) (by kernel_rfl) (by rfl) ?_
          simp only [fillT, List.getD_cons_zero, List.getD_cons_succ]
          have Y0 : Ext w5 w5.drew := (ext_refl w5).draw
          generalize w5.drew = y0 at Y0 ⊢
          repeat (refine wpTO_val (by rfl) ?_; intro K hK; go_big_quiet_op; go_big_quiet_on)
          refine wpTO_two ?_ ?_
          · refine wpTO_do (by rfl) ?_
            intro K hK
            go_simp
            have HRB := rd_lit (w := y0) (g := (y0 : World).heap.size) (C := #[.int .u8 (i : Int)]) (e := 5) (fz := (0, 0)) (cs := u8s [UInt8.ofNat i]) rfl HWB.out
            have Y1 := Ext.new Y0 (.cells #[.int .u8 (i : Int)] 5)
            refine hK _ _ Y1 ?_
            clear K hK
            refine wpTO_two ?_ ?_
            · refine wpTO_do (by rfl) ?_
              intro K hK
              have hcv := run_str_rd (P := Tryz.prog) (src := 72) (dst := 9) (e := 5) Tryz.underlying72 Tryz.underlying5 Tryz.underlying9 _ 1 1 [UInt8.ofNat i] rfl HRB (fun h => by cases h)
              rw [← HX2.out] at hcv
              go_simp
              refine hK _ _ Y1 ?_
              clear K hK hcv
              refine wpTO_do (by rfl) ?_
              intro K hK
              go_simp
              refine Calls.mono (HV.out _) ?_
              rintro e y2 ⟨rfl, hx⟩
              have Y2 := Ext.then Y1 hx
              replace HRB := Rd.keep HRB hx
              refine hK _ _ Y2 ?_
              clear K hK hx
              repeat (refine wpTO_val (by rfl) ?_; intro K hK; go_big_quiet_op; go_big_quiet_on)
              refine wpTO_nil ?_
              have XE := hid (HX5.out.then Y2)
              have XO := hid (own_ext HO5.out Y2)
              clear HO5 HX5 hc1
              go_wp2
              go_roundw
              case rel => exact ⟨i + 1, by omega, by go_num, by rw [HTL.out, HXT.out, HX2.out, HX3.out, str_app, str_app], by rw [HCN.out]; rfl, hid (by rw [HIN.out]; exact XO.out), XE⟩
              case measure => simp [intOf]; omega
            · refine wpTO_do (by rfl) ?_
              intro K hK
              go_simp
              refine Calls.mono (HV.out _) ?_
              rintro e y3 ⟨rfl, hx⟩
              have Y3 := Ext.then Y1 hx
              replace HRB := Rd.keep HRB hx
              refine hK _ _ Y3 ?_
              clear K hK hx
              refine wpTO_do (by rfl) ?_
              intro K hK
              have hcv := run_str_rd (P := Tryz.prog) (src := 72) (dst := 9) (e := 5) Tryz.underlying72 Tryz.underlying5 Tryz.underlying9 _ 1 1 [UInt8.ofNat i] rfl HRB (fun h => by cases h)
              rw [← HX2.out] at hcv
              go_simp
              refine hK _ _ Y3 ?_
              clear K hK hcv
              repeat (refine wpTO_val (by rfl) ?_; intro K hK; go_big_quiet_op; go_big_quiet_on)
              refine wpTO_nil ?_
              have XE := hid (HX5.out.then Y3)
              have XO := hid (own_ext HO5.out Y3)
              clear HO5 HX5 hc1
              go_wp2
              go_roundw
              case rel => exact ⟨i + 1, by omega, by go_num, by rw [HTL.out, HXT.out, HX2.out, HX3.out, str_app, str_app], by rw [HCN.out]; rfl, hid (by rw [HIN.out]; exact XO.out), XE⟩
              case measure => simp [intOf]; omega
          · refine wpTO_do (by rfl) ?_
            intro K hK
            go_simp
            refine Calls.mono (HV.out _) ?_
            rintro e y4 ⟨rfl, hx⟩
            have Y4 := Ext.then Y0 hx
            refine hK _ _ Y4 ?_
            clear K hK hx
            refine wpTO_do (by rfl) ?_
            intro K hK
            go_simp
            have HRB := rd_lit (w := y4) (g := (y4 : World).heap.size) (C := #[.int .u8 (i : Int)]) (e := 5) (fz := (0, 0)) (cs := u8s [UInt8.ofNat i]) rfl HWB.out
            have Y5 := Ext.new Y4 (.cells #[.int .u8 (i : Int)] 5)
            refine hK _ _ Y5 ?_
            clear K hK
            refine wpTO_do (by rfl) ?_
            intro K hK
            have hcv := run_str_rd (P := Tryz.prog) (src := 72) (dst := 9) (e := 5) Tryz.underlying72 Tryz.underlying5 Tryz.underlying9 _ 1 1 [UInt8.ofNat i] rfl HRB (fun h => by cases h)
            rw [← HX2.out] at hcv
            go_simp
            refine hK _ _ Y5 ?_
            clear K hK hcv
            repeat (refine wpTO_val (by rfl) ?_; intro K hK; go_big_quiet_op; go_big_quiet_on)
            refine wpTO_nil ?_
            have XE := hid (HX5.out.then Y5)
            have XO := hid (own_ext HO5.out Y5)
            clear HO5 HX5 hc1
            go_wp2
            go_roundw
            case rel => exact ⟨i + 1, by omega, by go_num, by rw [HTL.out, HXT.out, HX2.out, HX3.out, str_app, str_app], by rw [HCN.out]; rfl, hid (by rw [HIN.out]; exact XO.out), XE⟩
            case measure => simp [intOf]; omega
        · rw [decide_eq_false ho] at CO
          have HTL := hid (Pat.tl_no hx ho)
          have HCN := hid (Pat.cnt_no hx ho)
          have HIN := hid (congrArg u64s (Pat.inn_no hx ho))
          clear hx hmem hxl c1 hXT htll hxtl hcl htk ho
          go_wp2_with fail
          refine Calls.mono (CO.out _) ?_
          rintro e _ ⟨rfl, rfl⟩
          go_wp2
          go_roundw
          case rel => exact ⟨i + 1, by omega, by go_num, by rw [HTL.out, HXT.out], by rw [HCN.out], hid (by rw [← HIN.out]; exact HO.out), HX⟩
          case measure => simp [intOf]; omega
      · obtain rfl : i = n := by omega
        have htk : M.take i = M := List.take_of_length_le (by rw [HMN.out]; exact Nat.le_refl _)
        have hdr : M.drop i = [] := List.drop_eq_nil_of_le (by rw [HMN.out]; exact Nat.le_refl _)
        rw [htk, hdr, List.append_nil] at HO
        have htll := HTLL.out i
        have hxtl := HXL.out i
        have hcl := HCNL.out i
        rw [htk] at htll hxtl hcl ⊢
        rw [HMN.out] at hxtl hcl
        have HRAW := hid (fun wx (hx : Ext wr wx) => HRW.out V cv wx (by obtain ⟨_, _, e, hrd, _⟩ := Rd.owned HO.out; cases e; exact hrd.keep hx))
        obtain ⟨q, hq⟩ : ∃ q, q = Pat.cnt wd M := ⟨_, rfl⟩
        rw [← hq] at hcl ⊢
        have hqI : (q : Int) ≤ 64 := by have := HN64.out; omega
        obtain ⟨X1b, hX1b⟩ : ∃ S : ByteArray, S = ⟨(Vary.wr b).toArray⟩ := ⟨_, rfl⟩
        obtain ⟨X2b, hX2b⟩ : ∃ S : ByteArray, S = ⟨[UInt8.ofNat wd, UInt8.ofNat q].toArray⟩ := ⟨_, rfl⟩
        obtain ⟨X3b, hX3b⟩ : ∃ S : ByteArray, S = ⟨(Bits.packed (Pat.inn wd M) wd).toArray⟩ := ⟨_, rfl⟩
        obtain ⟨X4b, hX4b⟩ : ∃ S : ByteArray, S = ⟨(Pat.tl wd 0 M).toArray⟩ := ⟨_, rfl⟩
        have hz1 : X1b.size ≤ 9 := by rw [hX1b, str_size, Vary.wr_len]; have := Vary.beh_le8 b; omega
        have hz2 : X2b.size = 2 := by rw [hX2b]; rfl
        have hz3 : X3b.size ≤ 1000 := by
          rw [hX3b, str_size, HPL.out, Pat.inn_len, HMN.out]
          have h1 := HN64.out
          have h2 : i * wd ≤ 64 * 64 := Nat.mul_le_mul h1 (by omega)
          unfold Bits.size; omega
        have hz4 : X4b.size ≤ 640 := by rw [hX4b, str_size]; have := HN64.out; omega
        have HRES := hid (show (⟨(Pat.bys l).toArray⟩ : ByteArray) = X1b ++ X2b ++ X3b ++ X4b by rw [HBY.out, hX1b, hX2b, hX3b, hX4b, str_app, str_app, str_app, hq])
        rw [← hX1b] at HVB
        rw [← hX3b] at HRAW
        rw [← hX4b]
        have HEB := hid hX2b
        have HWB := hid (show (#[Value.int .u8 (wd : Int), Value.int .u8 (q : Int)] : Array Value).toList = u8s [UInt8.ofNat wd, UInt8.ofNat q] by
          have h1 : wd % 256 = wd := by omega
          have h2 : q % 256 = q := by omega
          simp [u8s, h1, h2])
        have hwu : IntKind.u8.wrap (wd : Int) = (wd : Int) := by rw [IntKind.wrap_u8]; omega
        have hqu : IntKind.u8.wrap (q : Int) = (q : Int) := by rw [IntKind.wrap_u8]; omega
        have d0r := cell_regrown hc0
        clear htk hdr htll hxtl hcl hq hX1b hX2b hX3b hX4b
        go_wp2
        refine wp_region_tree (.one 0 true (.one 1 true (.one 3 true (.one 4 true (.one 5 true (.one 6 true (.one 10 true (.one 11 true (.one 14 true (.two 2 7 (.two 7 12 (.two 8 12 (.one 9 true (.one 12 false (.one 13 true (.one 15 true (.one 16 true (.one 17 true (.nil))))))) (.one 8 false (.one 9 true (.one 13 true (.one 15 true (.one 16 true (.one 17 true (.nil)))))))) (.one 7 false (.one 8 false (.one 9 true (.one 13 true (.one 15 true (.one 16 true (.one 17 true (.nil))))))))) (.two 2 8 (.two 8 12 (.one 9 true (.one 12 false (.one 13 true (.one 15 true (.one 16 true (.one 17 true (.nil))))))) (.one 8 false (.one 9 true (.one 13 true (.one 15 true (.one 16 true (.one 17 true (.nil)))))))) (.one 2 false (.one 9 true (.one 12 false (.one 13 true (.one 15 true (.one 16 true (.one 17 true (.nil))))))))))))))))))) (by kernel_rfl) (by kernel_rfl) (fun _ _ _ _ _ h => h) (by kernel_rfl) (by rfl) ?_
        simp only [fillT, List.getD_cons_zero, List.getD_cons_succ]
        have Y0 : Ext wr wr.drew := (ext_refl wr).draw
        generalize wr.drew = y0 at Y0 ⊢
        repeat (refine wpTO_val (by rfl) ?_; intro K hK; go_big_quiet_op; go_big_quiet_on)
        refine wpTO_two ?_ ?_
        · refine wpTO_do (by rfl) ?_
          intro K hK
          go_simp
          refine Calls.mono (HVB.out _) ?_
          rintro e y1 ⟨rfl, hx⟩
          have Y1 := Ext.then Y0 hx
          refine hK _ _ Y1 ?_
          clear K hK hx
          refine wpTO_two ?_ ?_
          · refine wpTO_do (by rfl) ?_
            intro K hK
            go_simp
            have HRB := rd_lit (w := y1) (g := (y1 : World).heap.size) (C := #[.int .u8 (wd : Int), .int .u8 (q : Int)]) (e := 5) (fz := (0, 0)) (cs := u8s [UInt8.ofNat wd, UInt8.ofNat q]) rfl HWB.out
            have Y2 := Ext.new Y1 (.cells #[.int .u8 (wd : Int), .int .u8 (q : Int)] 5)
            refine hK _ _ Y2 ?_
            clear K hK
            refine wpTO_two ?_ ?_
            · refine wpTO_do (by rfl) ?_
              intro K hK
              have hcv := run_str_rd (P := Tryz.prog) (src := 72) (dst := 9) (e := 5) Tryz.underlying72 Tryz.underlying5 Tryz.underlying9 _ 2 2 [UInt8.ofNat wd, UInt8.ofNat q] rfl HRB (fun h => by cases h)
              rw [← HEB.out] at hcv
              go_simp
              refine hK _ _ Y2 ?_
              clear K hK hcv
              repeat (refine wpTO_val (by rfl) ?_; intro K hK; go_big_quiet_op; go_big_quiet_on)
              refine wpTO_do (by rfl) ?_
              intro K hK
              go_simp
              refine Calls.mono (HRAW.out _ Y2) ?_
              rintro e y3 ⟨rfl, hx⟩
              have Y3 := Ext.then Y2 hx
              replace HRB := Rd.keep HRB hx
              refine hK _ _ Y3 ?_
              clear K hK hx
              repeat (refine wpTO_val (by rfl) ?_; intro K hK; go_big_quiet_op; go_big_quiet_on)
              refine wpTO_nil ?_
              have XE := hid (HX2.out.then (HX.out.then Y3))
              go_wp2
              go_returns
              exact ⟨by rw [HRES.out]; rfl, XE.out⟩
            · refine wpTO_do (by rfl) ?_
              intro K hK
              go_simp
              refine Calls.mono (HRAW.out _ Y2) ?_
              rintro e y4 ⟨rfl, hx⟩
              have Y4 := Ext.then Y2 hx
              replace HRB := Rd.keep HRB hx
              refine hK _ _ Y4 ?_
              clear K hK hx
              refine wpTO_do (by rfl) ?_
              intro K hK
              have hcv := run_str_rd (P := Tryz.prog) (src := 72) (dst := 9) (e := 5) Tryz.underlying72 Tryz.underlying5 Tryz.underlying9 _ 2 2 [UInt8.ofNat wd, UInt8.ofNat q] rfl HRB (fun h => by cases h)
              rw [← HEB.out] at hcv
              go_simp
              refine hK _ _ Y4 ?_
              clear K hK hcv
              repeat (refine wpTO_val (by rfl) ?_; intro K hK; go_big_quiet_op; go_big_quiet_on)
              refine wpTO_nil ?_
              have XE := hid (HX2.out.then (HX.out.then Y4))
              go_wp2
              go_returns
              exact ⟨by rw [HRES.out]; rfl, XE.out⟩
          · refine wpTO_do (by rfl) ?_
            intro K hK
            go_simp
            refine Calls.mono (HRAW.out _ Y1) ?_
            rintro e y5 ⟨rfl, hx⟩
            have Y5 := Ext.then Y1 hx
            refine hK _ _ Y5 ?_
            clear K hK hx
            refine wpTO_do (by rfl) ?_
            intro K hK
            go_simp
            have HRB := rd_lit (w := y5) (g := (y5 : World).heap.size) (C := #[.int .u8 (wd : Int), .int .u8 (q : Int)]) (e := 5) (fz := (0, 0)) (cs := u8s [UInt8.ofNat wd, UInt8.ofNat q]) rfl HWB.out
            have Y6 := Ext.new Y5 (.cells #[.int .u8 (wd : Int), .int .u8 (q : Int)] 5)
            refine hK _ _ Y6 ?_
            clear K hK
            refine wpTO_do (by rfl) ?_
            intro K hK
            have hcv := run_str_rd (P := Tryz.prog) (src := 72) (dst := 9) (e := 5) Tryz.underlying72 Tryz.underlying5 Tryz.underlying9 _ 2 2 [UInt8.ofNat wd, UInt8.ofNat q] rfl HRB (fun h => by cases h)
            rw [← HEB.out] at hcv
            go_simp
            refine hK _ _ Y6 ?_
            clear K hK hcv
            repeat (refine wpTO_val (by rfl) ?_; intro K hK; go_big_quiet_op; go_big_quiet_on)
            refine wpTO_nil ?_
            have XE := hid (HX2.out.then (HX.out.then Y6))
            go_wp2
            go_returns
            exact ⟨by rw [HRES.out]; rfl, XE.out⟩
        · refine wpTO_do (by rfl) ?_
          intro K hK
          go_simp
          have HRB := rd_lit (w := y0) (g := (y0 : World).heap.size) (C := #[.int .u8 (wd : Int), .int .u8 (q : Int)]) (e := 5) (fz := (0, 0)) (cs := u8s [UInt8.ofNat wd, UInt8.ofNat q]) rfl HWB.out
          have Y7 := Ext.new Y0 (.cells #[.int .u8 (wd : Int), .int .u8 (q : Int)] 5)
          refine hK _ _ Y7 ?_
          clear K hK
          refine wpTO_two ?_ ?_
          · refine wpTO_do (by rfl) ?_
            intro K hK
            go_simp
            refine Calls.mono (HVB.out _) ?_
            rintro e y8 ⟨rfl, hx⟩
            have Y8 := Ext.then Y7 hx
            replace HRB := Rd.keep HRB hx
            refine hK _ _ Y8 ?_
            clear K hK hx
            refine wpTO_two ?_ ?_
            · refine wpTO_do (by rfl) ?_
              intro K hK
              have hcv := run_str_rd (P := Tryz.prog) (src := 72) (dst := 9) (e := 5) Tryz.underlying72 Tryz.underlying5 Tryz.underlying9 _ 2 2 [UInt8.ofNat wd, UInt8.ofNat q] rfl HRB (fun h => by cases h)
              rw [← HEB.out] at hcv
              go_simp
              refine hK _ _ Y8 ?_
              clear K hK hcv
              repeat (refine wpTO_val (by rfl) ?_; intro K hK; go_big_quiet_op; go_big_quiet_on)
              refine wpTO_do (by rfl) ?_
              intro K hK
              go_simp
              refine Calls.mono (HRAW.out _ Y8) ?_
              rintro e y9 ⟨rfl, hx⟩
              have Y9 := Ext.then Y8 hx
              replace HRB := Rd.keep HRB hx
              refine hK _ _ Y9 ?_
              clear K hK hx
              repeat (refine wpTO_val (by rfl) ?_; intro K hK; go_big_quiet_op; go_big_quiet_on)
              refine wpTO_nil ?_
              have XE := hid (HX2.out.then (HX.out.then Y9))
              go_wp2
              go_returns
              exact ⟨by rw [HRES.out]; rfl, XE.out⟩
            · refine wpTO_do (by rfl) ?_
              intro K hK
              go_simp
              refine Calls.mono (HRAW.out _ Y8) ?_
              rintro e y10 ⟨rfl, hx⟩
              have Y10 := Ext.then Y8 hx
              replace HRB := Rd.keep HRB hx
              refine hK _ _ Y10 ?_
              clear K hK hx
              refine wpTO_do (by rfl) ?_
              intro K hK
              have hcv := run_str_rd (P := Tryz.prog) (src := 72) (dst := 9) (e := 5) Tryz.underlying72 Tryz.underlying5 Tryz.underlying9 _ 2 2 [UInt8.ofNat wd, UInt8.ofNat q] rfl HRB (fun h => by cases h)
              rw [← HEB.out] at hcv
              go_simp
              refine hK _ _ Y10 ?_
              clear K hK hcv
              repeat (refine wpTO_val (by rfl) ?_; intro K hK; go_big_quiet_op; go_big_quiet_on)
              refine wpTO_nil ?_
              have XE := hid (HX2.out.then (HX.out.then Y10))
              go_wp2
              go_returns
              exact ⟨by rw [HRES.out]; rfl, XE.out⟩
          · refine wpTO_do (by rfl) ?_
            intro K hK
            have hcv := run_str_rd (P := Tryz.prog) (src := 72) (dst := 9) (e := 5) Tryz.underlying72 Tryz.underlying5 Tryz.underlying9 _ 2 2 [UInt8.ofNat wd, UInt8.ofNat q] rfl HRB (fun h => by cases h)
            rw [← HEB.out] at hcv
            go_simp
            refine hK _ _ Y7 ?_
            clear K hK hcv
            refine wpTO_do (by rfl) ?_
            intro K hK
            go_simp
            refine Calls.mono (HVB.out _) ?_
            rintro e y11 ⟨rfl, hx⟩
            have Y11 := Ext.then Y7 hx
            replace HRB := Rd.keep HRB hx
            refine hK _ _ Y11 ?_
            clear K hK hx
            repeat (refine wpTO_val (by rfl) ?_; intro K hK; go_big_quiet_op; go_big_quiet_on)
            refine wpTO_do (by rfl) ?_
            intro K hK
            go_simp
            refine Calls.mono (HRAW.out _ Y11) ?_
            rintro e y12 ⟨rfl, hx⟩
            have Y12 := Ext.then Y11 hx
            replace HRB := Rd.keep HRB hx
            refine hK _ _ Y12 ?_
            clear K hK hx
            repeat (refine wpTO_val (by rfl) ?_; intro K hK; go_big_quiet_op; go_big_quiet_on)
            refine wpTO_nil ?_
            have XE := hid (HX2.out.then (HX.out.then Y12))
            go_wp2
            go_returns
            exact ⟨by rw [HRES.out]; rfl, XE.out⟩
end Go.Proofs.YtdmmodeplfmpnaaGreat
end
section
namespace Hy.Pat
theorem cst_lt (M : List Nat) (h : M.length ≤ 64) : ∀ w, w ≤ 64 → cst M w ≤ 2000 := fun w hw => by
  have h1 := xt_le w M
  have h2 : M.length * w ≤ 64 * 64 := Nat.mul_le_mul h hw
  unfold cst Bits.size
  omega
end Hy.Pat
namespace Go.Proofs.YtdmmodeplfmpnaaGreat
open Go.RowKit Hy
set_option maxRecDepth 100000 in
set_option maxHeartbeats 3200000 in
theorem patchBytes_any (l : List Nat) (A : Option Addr) (n cap : Nat) (w : World) (hn : l.length = n) (hr : Rd w A (u64s l)) (hl : ∀ x ∈ l, x < 18446744073709551616) (hnl : n ≤ 64) :
    Calls Tryz.prog 43 #[.slice A n cap] w fun e w' => e = .returned (.string ⟨(Pat.bys l).toArray⟩) ∧ Ext w w' := by
  have HCO := hid (fun wd (h : wd ≤ 64) wx (hx : Ext w wx) => costOf_any l A n cap wd wx hn (hr.keep hx) hl hnl h)
  have CB := hid (fun wx (hx : Ext w wx) => baseOf_any l A n cap wx hn (hr.keep hx) hl hnl)
  have hbl := Pat.bas_lt l hl
  have hml := Pat.mor_lt l hl
  have hmn := Pat.mor_len l
  have hBY := Pat.bys_eq l
  have HLE := hid (Pat.bas_le l)
  have HMOR := hid (show Pat.mor l = l.map (· - Pat.bas l) from rfl)
  have HCL := hid (Pat.cst_lt (Pat.mor l) (by rw [hmn, hn]; exact hnl))
  have HOF := hid (fun v (hk : v ≤ 64) h1 h2 => Pat.bst_of (M := Pat.mor l) (k := 64) (w := v) hk h1 h2)
  obtain ⟨b, hb⟩ : ∃ b, b = Pat.bas l := ⟨_, rfl⟩
  obtain ⟨M, hM⟩ : ∃ M, M = Pat.mor l := ⟨_, rfl⟩
  obtain ⟨wd, hwd⟩ : ∃ wd, wd = Pat.bst M 64 := ⟨_, rfl⟩
  have hwb := Pat.bst_le M 64
  rw [← hb] at hbl CB HLE HMOR
  rw [← hb, ← hM, ← hwd] at hBY
  rw [← hM] at hml hmn HMOR HCL HOF HCO
  rw [← hwd] at hwb
  simp only [← hwd] at HOF
  rw [hn] at hmn
  have HFI := hid (fun x (hx : x ∈ M) wx => fits_any x wd wx (hml x hx) (by omega))
  have HWR := hid (fun x (hx : x ∈ M) wx => varyBytes_any x wx (hml x hx))
  have HVB := hid (fun wx => varyBytes_any b wx hbl)
  have HPK := hid (fun (B : Option Addr) (c : Nat) (wx : World) (h : Rd wx B (u64s (Pat.inn wd M))) => packedOf_any (Pat.inn wd M) B n c wd wx (by rw [Pat.inn_len, hmn]) h (Pat.inn_lt wd M hwb hml) (by omega) hwb)
  have HMN := hid hmn
  have hwI : (wd : Int) ≤ 64 := by omega
  have hbI : (b : Int) ≤ 18446744073709551615 := by omega
  have hnI : (n : Int) ≤ 64 := by omega
  have HBY := hid hBY
  have HML := hid hml
  have HR := hid hr
  have HN := hid hn
  have HN64 := hid hnl
  have HPL := hid (Bits.packed_len (Pat.inn wd M) wd)
  have HXL := hid (fun i => Pat.xt_le wd (M.take i))
  have HTLL := hid (fun i => Pat.tl_len wd (M.take i) 0)
  have HCNL := hid (fun i => Pat.cnt_le wd (M.take i))
  have HGM := hid (show ∀ i x, l[i]? = some x → M[i]? = some (x - b) from fun i x h => by rw [HMOR.out, List.getElem?_map, h]; rfl)
  clear hn hr hl hnl hbl hml hmn hb hM hwd hBY
  go_enter Tryz.func43, Tryz.ntmps43
  go_wp2
  go_loopw [3, 4] (fun a c wr => ∃ (v k : Nat), k ≤ 64 ∧ c = .int .i64 ((k : Int) - 1) ∧ a = .int .i64 v ∧ k ≤ v ∧ v ≤ 64 ∧ Hid (∀ u, k ≤ u → u ≤ 64 → Pat.cst M v ≤ Pat.cst M u) ∧ Hid (∀ u, k ≤ u → u < v → Pat.cst M v < Pat.cst M u) ∧ Hid (Ext w wr)) (fun _ c _ => ((intOf c) + 1).toNat)
  case atStart => exact ⟨64, 64, Nat.le_refl _, rfl, rfl, Nat.le_refl _, Nat.le_refl _, hid (fun u h1 h2 => by rw [show u = 64 by omega]; exact Nat.le_refl _), hid (fun u h1 h2 => by omega), ext_refl _⟩
  case round =>
    obtain ⟨v, k, hk, rfl, rfl, hkv, hv, H1, H2, HX⟩ := hrel
    by_cases hk0 : 1 ≤ k
    · obtain ⟨j, rfl⟩ : ∃ j, k = j + 1 := ⟨k - 1, by omega⟩
      have hj : ((j + 1 : Nat) : Int) - 1 = (j : Int) := by omega
      rw [hj]
      have hjI : (j : Int) ≤ 63 := by omega
      have hvI : (v : Int) ≤ 64 := by omega
      have C1 := hid (HCO.out j (by omega))
      have C2 := hid (HCO.out v hv)
      have l1 := HCL.out j (by omega)
      have l2 := HCL.out v hv
      have HKV := hid hkv
      have HV := hid hv
      obtain ⟨c1, hc1⟩ : ∃ c, c = Pat.cst M j := ⟨_, rfl⟩
      obtain ⟨c2, hc2⟩ : ∃ c, c = Pat.cst M v := ⟨_, rfl⟩
      rw [← hc1] at C1 l1
      rw [← hc2] at C2 l2
      have l1I : (c1 : Int) ≤ 100000 := by omega
      have l2I : (c2 : Int) ≤ 100000 := by omega
      by_cases hle : c1 ≤ c2
      · have H1n := hid (show ∀ u, j ≤ u → u ≤ 64 → Pat.cst M j ≤ Pat.cst M u from fun u h1 h2 => by
          rcases Nat.eq_or_lt_of_le h1 with e | h
          · rw [← e]; exact Nat.le_refl _
          · have := H1.out u h h2; omega)
        have H2n := hid (show ∀ u, j ≤ u → u < j → Pat.cst M j < Pat.cst M u from fun u h1 h2 => by omega)
        have hleI : (c1 : Int) ≤ (c2 : Int) := by omega
        clear hk0 hc1 hc2 l1 l2 hkv hv hk hj hle
        go_wp2_with fail
        refine Calls.mono (C1.out _ HX.out) ?_
        rintro e w2 ⟨rfl, hx⟩
        have HX2 := hid (HX.out.then hx)
        clear hx C1
        go_wp2_with fail
        refine Calls.mono (C2.out _ HX2.out) ?_
        rintro e w3 ⟨rfl, hx⟩
        have HX3 := hid (HX2.out.then hx)
        clear hx C2
        go_wp2
        go_roundw
        case rel => exact ⟨j, j, by omega, rfl, rfl, Nat.le_refl _, by omega, H1n, H2n, HX3⟩
        case measure => simp [intOf] <;> omega
      · have H1n := hid (show ∀ u, j ≤ u → u ≤ 64 → Pat.cst M v ≤ Pat.cst M u from fun u h1 h2 => by
          rcases Nat.eq_or_lt_of_le h1 with e | h
          · rw [← e]; omega
          · exact H1.out u h h2)
        have H2n := hid (show ∀ u, j ≤ u → u < v → Pat.cst M v < Pat.cst M u from fun u h1 h2 => by
          rcases Nat.eq_or_lt_of_le h1 with e | h
          · rw [← e]; omega
          · exact H2.out u h h2)
        have hleI : ¬ (c1 : Int) ≤ (c2 : Int) := by omega
        clear hk0 hc1 hc2 l1 l2 hkv hv hk hj hle
        go_wp2_with fail
        refine Calls.mono (C1.out _ HX.out) ?_
        rintro e w2 ⟨rfl, hx⟩
        have HX2 := hid (HX.out.then hx)
        clear hx C1
        go_wp2_with fail
        refine Calls.mono (C2.out _ HX2.out) ?_
        rintro e w3 ⟨rfl, hx⟩
        have HX3 := hid (HX2.out.then hx)
        clear hx C2
        go_wp2
        go_roundw
        case rel => exact ⟨v, j, by omega, rfl, rfl, by have := HKV.out; omega, HV.out, H1n, H2n, HX3⟩
        case measure => simp [intOf] <;> omega
    · obtain rfl : k = 0 := by omega
      have hvw := HOF.out v hv (fun u hu => H1.out u (Nat.zero_le _) hu) (fun u hu => H2.out u (Nat.zero_le _) hu)
      rw [← hvw]
      clear hvw H1 H2 hkv hk0 HOF HCO HCL hv hk
      have HX0 := HX
      clear HX
      rw [show ((0 : Nat) : Int) - 1 = -1 from rfl]
      have hz0 : decide ((0 : Int) ≤ -1) = false := by decide
      go_wp2
      go_loopw [5, 6, 7, 8, 9] (fun a t8 cq ix _ wr => ∃ i, i ≤ n ∧ ix = .int .i64 i ∧ t8 = .string ⟨(Pat.tl wd 0 (M.take i)).toArray⟩ ∧ cq = .int .i64 (Pat.cnt wd (M.take i) : Nat) ∧ Hid (wr.ownsRow w.heap.size 39 1 a i (u64s (Pat.inn wd (M.take i)))) ∧ Hid (Ext w wr)) (fun _ _ _ ix _ _ => n - (intOf ix).toNat)
      case atStart => exact ⟨0, Nat.zero_le _, rfl, rfl, rfl, hid (World.ownsRow_nil _ _ _ _), HX0⟩
      case round =>
        obtain ⟨i, hi, rfl, rfl, rfl, HO, HX⟩ := hrel
        by_cases hlt : i < n
        · have hltI : (i : Int) < (n : Int) := by omega
          obtain ⟨z, hz⟩ : ∃ z, l[i]? = some z := ⟨_, List.getElem?_eq_getElem (by rw [HN.out]; exact hlt)⟩
          have hx := HGM.out i z hz
          have hbz := HLE.out z (List.mem_of_getElem? hz)
          obtain ⟨b1, o1, e1, l1, c1⟩ := (HR.out.keep HX.out).num00 (by rw [HN.out]; omega)
          subst e1
          have d0 := c1 i z hz
          have d0r := cell_regrown d0
          obtain ⟨x, hxe⟩ : ∃ x, x = z - b := ⟨_, rfl⟩
          rw [← hxe] at hx
          have hmem := List.mem_of_getElem? hx
          have hxl := HML.out x hmem
          have hsub : (z : Int) - (b : Int) = (x : Int) := by omega
          have hxI : (x : Int) ≤ 18446744073709551615 := by omega
          have hwx : IntKind.u64.wrap (x : Int) = (x : Int) := by rw [IntKind.wrap_u64]; omega
          have CF := hid (HFI.out x hmem)
          have CW := hid (HWR.out x hmem)
          have COB := hid (fun wx => oneByte_any (i : Int) wx (by omega) (by have := HN64.out; omega))
          rw [Int.toNat_natCast] at COB
          obtain ⟨XT, hXT⟩ : ∃ S : ByteArray, S = ⟨(Pat.tl wd 0 (M.take i)).toArray⟩ := ⟨_, rfl⟩
          have htll := HTLL.out i
          have hxtl := HXL.out i
          have hcl := HCNL.out i
          have htk : (M.take i).length ≤ n := by rw [List.length_take]; omega
          have hXs : XT.size ≤ 640 := by rw [hXT, str_size]; have := HN64.out; omega
          have hcI : ((Pat.cnt wd (M.take i) : Nat) : Int) ≤ 64 := by have := HN64.out; omega
          rw [← hXT]
          have HXT := hid hXT
          obtain ⟨A3, c3, rfl, hrd3, _⟩ := Rd.owned HO.out
          have HI := hid (show i ≤ 64 by have := HN64.out; omega)
          have HTAK := hid (take_succ_snoc' hx)
          by_cases ho : wd < Lib.bitLen x
          · rw [Bits.fitsB_false ho] at CF
            have HTL := hid (Pat.tl_at hx ho)
            have HCN := hid (Pat.cnt_at hx ho)
            have HIN := hid (show Pat.inn wd (M.take (i + 1)) = Pat.inn wd (M.take i) ++ [0] by rw [HTAK.out]; unfold Pat.inn; rw [List.map_append]; simp [ho])
            have hvl := Vary.wr_len x
            have hv8 := Vary.beh_le8 x
            obtain ⟨X2b, hX2b⟩ : ∃ S : ByteArray, S = ⟨#[UInt8.ofNat i]⟩ := ⟨_, rfl⟩
            obtain ⟨X3b, hX3b⟩ : ∃ S : ByteArray, S = ⟨(Vary.wr x).toArray⟩ := ⟨_, rfl⟩
            rw [← hX3b] at CW
            rw [← hX2b] at COB
            have hz2 : X2b.size = 1 := by rw [hX2b]; rfl
            have hz3 : X3b.size ≤ 9 := by rw [hX3b, str_size]; omega
            have HX2b := hid hX2b
            have HX3b := hid hX3b
            clear hx hmem hxl c1 hXT htll hxtl hcl htk hX2b hX3b hvl hv8 ho hz hxe hbz hrd3
            generalize Pat.cnt wd (M.take i) = q at *
            generalize Pat.inn wd (M.take i) = L at *
            go_wp2
            refine wp_region_walk [(0, true), (1, true), (2, true), (3, true), (4, true), (5, false), (6, true), (7, true)] (by kernel_rfl) (by kernel_rfl) (fun _ _ _ _ _ h => h) (by kernel_rfl) (by rfl) ?_
            simp only [List.filterMap_cons, List.filterMap_nil, List.getElem?_toArray, List.getElem?_cons_zero, List.getElem?_cons_succ, Option.map_some]
            repeat (refine wpM_val (by rfl) ?_; intro K hK; go_big_quiet_op; go_big_quiet_on)
            have HY1 : Hid (Ext wr wr.drew) := hid (Ext.draw (ext_refl wr))
            refine wpM_do (by rfl) ?_
            intro K hK
            go_simp
            refine Calls.mono (CB.out _ (HX.out.then HY1.out)) ?_
            rintro e _ ⟨rfl, rfl⟩
            refine hK _ _ HY1.out ?_
            clear K hK
            repeat (refine wpM_val (by rfl) ?_; intro K hK; go_big_quiet_op; go_big_quiet_on)
            refine wpM_nil ?_
            have HO2 := hid (own_ext HO.out HY1.out)
            have HX2 := hid (HX.out.then HY1.out)
            clear HY1
            generalize wr.drew = wq at HO2 HX2 ⊢
            go_wp2_with fail
            refine Calls.mono (CF.out _) ?_
            rintro e _ ⟨rfl, rfl⟩
            go_wp2_with (first
              | (go_at_call 39; refine Calls.mono (COB.out _) ?_; rintro e w6 ⟨rfl, hx⟩; replace HO5 := hid (own_ext HO5.out hx); replace HX5 := hid (Ext.then HX5.out hx); clear hx)
              | (go_at_call 78; refine Calls.mono (CW.out _) ?_; rintro e w7 ⟨rfl, hx⟩; replace HO5 := hid (own_ext HO5.out hx); replace HX5 := hid (Ext.then HX5.out hx); clear hx)
              | (at_builtin; refine wpList_app rfl (.tmp 42) (.tmp 43) rowU64 rfl _ i _ rfl (own_ext HO2.out ((ext_refl _).new _)) _ 1 (u64s [0]) rfl (Src.rd Tryz.underlying22 _ 1 1 _ rfl (rd_lit rfl rfl) (u64s_one _) (fun h => by cases h)) (by have := HI.out; unfold maxLen; omega) (by have := HI.out; omega) (by have := HX2.out.size; simp; omega) ?_; intro v' w5 hown5 hgrow hat hbel; have HO5 := hid hown5; have HX5 := hid (Below.trans (Ext.new HX2.out _) hbel); obtain ⟨A5, c5, rfl, _⟩ := Rd.owned HO5.out; clear hown5 hgrow hat hbel))
            go_roundw
            case rel => exact ⟨i + 1, by omega, by go_num, by rw [HTL.out, HXT.out, HX2b.out, HX3b.out, show (⟨#[UInt8.ofNat i]⟩ : ByteArray) = ⟨[UInt8.ofNat i].toArray⟩ from rfl, str_app, str_app], by rw [HCN.out]; rfl, hid (by rw [HIN.out, u64s_app]; exact HO5.out), HX5⟩
            case measure => simp [intOf]; omega
          · rw [Bits.fitsB_true (by omega)] at CF
            have HTL := hid (Pat.tl_no hx ho)
            have HCN := hid (Pat.cnt_no hx ho)
            have HIN := hid (show Pat.inn wd (M.take (i + 1)) = Pat.inn wd (M.take i) ++ [x] by rw [HTAK.out]; unfold Pat.inn; rw [List.map_append]; simp [ho])
            clear hx hmem hxl c1 hXT htll hxtl hcl htk ho hz hxe hbz hrd3
            generalize Pat.inn wd (M.take i) = L at *
            go_wp2
            refine wp_region_walk [(0, true), (1, true), (2, true), (3, true), (4, true), (5, false), (6, true), (7, true)] (by kernel_rfl) (by kernel_rfl) (fun _ _ _ _ _ h => h) (by kernel_rfl) (by rfl) ?_
            simp only [List.filterMap_cons, List.filterMap_nil, List.getElem?_toArray, List.getElem?_cons_zero, List.getElem?_cons_succ, Option.map_some]
            repeat (refine wpM_val (by rfl) ?_; intro K hK; go_big_quiet_op; go_big_quiet_on)
            have HY1 : Hid (Ext wr wr.drew) := hid (Ext.draw (ext_refl wr))
            refine wpM_do (by rfl) ?_
            intro K hK
            go_simp
            refine Calls.mono (CB.out _ (HX.out.then HY1.out)) ?_
            rintro e _ ⟨rfl, rfl⟩
            refine hK _ _ HY1.out ?_
            clear K hK
            repeat (refine wpM_val (by rfl) ?_; intro K hK; go_big_quiet_op; go_big_quiet_on)
            refine wpM_nil ?_
            have HO2 := hid (own_ext HO.out HY1.out)
            have HX2 := hid (HX.out.then HY1.out)
            clear HY1
            generalize wr.drew = wq at HO2 HX2 ⊢
            go_wp2_with fail
            refine Calls.mono (CF.out _) ?_
            rintro e _ ⟨rfl, rfl⟩
            go_wp2_with (at_builtin; refine wpList_app rfl (.tmp 38) (.tmp 40) rowU64 rfl _ i _ rfl (own_ext HO2.out ((ext_refl _).new _)) _ 1 (u64s [x]) rfl (Src.rd Tryz.underlying22 _ 1 1 _ rfl (rd_lit rfl rfl) (u64s_one _) (fun h => by cases h)) (by have := HI.out; unfold maxLen; omega) (by have := HI.out; omega) (by have := HX2.out.size; simp; omega) ?_; intro v' w5 hown5 hgrow hat hbel; have HO5 := hid hown5; have HX5 := hid (Below.trans (Ext.new HX2.out _) hbel); obtain ⟨A5, c5, rfl, _⟩ := Rd.owned HO5.out; clear hown5 hgrow hat hbel)
            go_roundw
            case rel => exact ⟨i + 1, by omega, by go_num, by rw [HTL.out, HXT.out], by rw [HCN.out], hid (by rw [HIN.out, u64s_app]; exact HO5.out), HX5⟩
            case measure => simp [intOf]; omega
        · obtain rfl : i = n := by omega
          have htk : M.take i = M := List.take_of_length_le (by rw [HMN.out]; exact Nat.le_refl _)
          rw [htk] at HO
          have htll := HTLL.out i
          have hxtl := HXL.out i
          have hcl := HCNL.out i
          rw [htk] at htll hxtl hcl ⊢
          rw [HMN.out] at hxtl hcl
          obtain ⟨A3, c3, rfl, hrd3, _⟩ := Rd.owned HO.out
          have HPC := hid (fun wx (hx : Ext wr wx) => HPK.out A3 c3 wx (hrd3.keep hx))
          obtain ⟨q, hq⟩ : ∃ q, q = Pat.cnt wd M := ⟨_, rfl⟩
          rw [← hq] at hcl ⊢
          have hqI : (q : Int) ≤ 64 := by have := HN64.out; omega
          have CO1 := hid (fun wx => oneByte_any (wd : Int) wx (by omega) (by omega))
          have CO2 := hid (fun wx => oneByte_any (q : Int) wx (by omega) (by omega))
          rw [Int.toNat_natCast] at CO1 CO2
          obtain ⟨X1b, hX1b⟩ : ∃ S : ByteArray, S = ⟨(Vary.wr b).toArray⟩ := ⟨_, rfl⟩
          obtain ⟨X2b, hX2b⟩ : ∃ S : ByteArray, S = ⟨#[UInt8.ofNat wd]⟩ := ⟨_, rfl⟩
          obtain ⟨X5b, hX5b⟩ : ∃ S : ByteArray, S = ⟨#[UInt8.ofNat q]⟩ := ⟨_, rfl⟩
          obtain ⟨X3b, hX3b⟩ : ∃ S : ByteArray, S = ⟨(Bits.packed (Pat.inn wd M) wd).toArray⟩ := ⟨_, rfl⟩
          obtain ⟨X4b, hX4b⟩ : ∃ S : ByteArray, S = ⟨(Pat.tl wd 0 M).toArray⟩ := ⟨_, rfl⟩
          have hz1 : X1b.size ≤ 9 := by rw [hX1b, str_size, Vary.wr_len]; have := Vary.beh_le8 b; omega
          have hz2 : X2b.size = 1 := by rw [hX2b]; rfl
          have hz5 : X5b.size = 1 := by rw [hX5b]; rfl
          have hz3 : X3b.size ≤ 1000 := by
            rw [hX3b, str_size, HPL.out, Pat.inn_len, HMN.out]
            have h1 := HN64.out
            have h2 : i * wd ≤ 64 * 64 := Nat.mul_le_mul h1 (by omega)
            unfold Bits.size; omega
          have hz4 : X4b.size ≤ 640 := by rw [hX4b, str_size]; have := HN64.out; omega
          have HRES := hid (show (⟨(Pat.bys l).toArray⟩ : ByteArray) = X1b ++ X2b ++ X5b ++ X3b ++ X4b by
            rw [HBY.out, hX1b, hX2b, hX5b, hX3b, hX4b, show (⟨#[UInt8.ofNat wd]⟩ : ByteArray) = ⟨[UInt8.ofNat wd].toArray⟩ from rfl, show (⟨#[UInt8.ofNat q]⟩ : ByteArray) = ⟨[UInt8.ofNat q].toArray⟩ from rfl, str_app, str_app, str_app, str_app, hq, List.append_assoc (Vary.wr b) [UInt8.ofNat wd]]; rfl)
          rw [← hX1b] at HVB
          rw [← hX3b] at HPC
          rw [← hX2b] at CO1
          rw [← hX5b] at CO2
          rw [← hX4b]
          clear htk htll hxtl hcl hq hX1b hX2b hX3b hX4b hX5b hrd3
          go_wp2_with fail
          refine Calls.mono (CB.out _ HX.out) ?_
          rintro e _ ⟨rfl, rfl⟩
          go_wp2_with fail
          refine Calls.mono (HVB.out _) ?_
          rintro e y1 ⟨rfl, hx⟩
          have Y1 := hid hx
          clear hx
          go_wp2_with fail
          refine Calls.mono (CO1.out _) ?_
          rintro e y2 ⟨rfl, hx⟩
          have Y2 := hid (Y1.out.then hx)
          clear hx
          go_wp2_with fail
          refine Calls.mono (CO2.out _) ?_
          rintro e y3 ⟨rfl, hx⟩
          have Y3 := hid (Y2.out.then hx)
          clear hx
          go_wp2_with fail
          refine Calls.mono (HPC.out _ Y3.out) ?_
          rintro e y4 ⟨rfl, hx⟩
          have Y4 := hid (HX.out.then (Y3.out.then hx))
          clear hx
          go_wp2
          go_returns
          exact ⟨by rw [HRES.out]; rfl, Y4.out⟩
end Go.Proofs.YtdmmodeplfmpnaaGreat
end
section
namespace Go.Proofs.YtdmmodeplfmpnaaGreat
open Go.RowKit Hy
set_option maxHeartbeats 1600000 in
theorem patchOf_vary (s : ByteArray) (L : List UInt8) (hL : s.data.toList = L) (m : Nat) (w : World) (hs : s.size ≤ 281474976710656) (hm : m ≤ 64) (a k e0 : Nat) (hrd : Vary.rd L = (a, k, e0)) (hk : k ≤ L.length) (ha : a < 18446744073709551616) (he : e0 ≠ 0) :
    Calls Tryz.prog 57 #[.string s, .int .i64 m] w (NumsOut (Pat.rdP L m).1 (Pat.rdP L m).2 w) := by
  have hls : L.length = s.size := by rw [← hL]; simp
  have HVO := hid (varyOf_any s w hs)
  rw [hL, hrd] at HVO
  have hmI : (m : Int) ≤ 64 := by omega
  have haI : (a : Int) ≤ 18446744073709551615 := by omega
  have hkI : (k : Int) ≤ 281474976710656 := by omega
  rw [Pat.rdP_err hm (by rw [Pat.fr_vary hrd he]; exact he), Pat.fr_vary hrd he]
  have h5 : ((e0 : Int) != 0) = true := by rw [bne_iff_ne]; omega
  have h6 : ((e0 : Int) == 0) = false := by rw [beq_eq_false_iff_ne]; omega
  clear hL hs hm hrd hk ha he hls
  go_enter Tryz.func57, Tryz.ntmps57
  go_wp2_with fail
  refine Calls.mono HVO.out ?_
  rintro e w1 ⟨rfl, hx⟩
  have HX1 := hid hx
  clear hx
  go_wp2
  go_returns
  exact ⟨none, 0, rfl, fun h => by simp [u64s] at h, HX1.out⟩
set_option maxHeartbeats 1600000 in
theorem patchOf_short (s : ByteArray) (L : List UInt8) (hL : s.data.toList = L) (m : Nat) (w : World) (hs : s.size ≤ 281474976710656) (hm : m ≤ 64) (a k e0 : Nat) (hrd : Vary.rd L = (a, k, e0)) (hk : k ≤ L.length) (ha : a < 18446744073709551616) (he : e0 = 0) (h2 : (L.drop k).length < 2) :
    Calls Tryz.prog 57 #[.string s, .int .i64 m] w (NumsOut (Pat.rdP L m).1 (Pat.rdP L m).2 w) := by
  have hls : L.length = s.size := by rw [← hL]; simp
  have HVO := hid (varyOf_any s w hs)
  rw [hL, hrd] at HVO
  have hmI : (m : Int) ≤ 64 := by omega
  have haI : (a : Int) ≤ 18446744073709551615 := by omega
  have hkI : (k : Int) ≤ 281474976710656 := by omega
  subst he
  have hF := Pat.fr_ok (many := m) hrd
  obtain ⟨t, ht⟩ : ∃ t, t = L.drop k := ⟨_, rfl⟩
  rw [← ht] at hF
  have htl : t.length ≤ 281474976710656 := by rw [ht, List.length_drop]; omega
  have hI1 := fun wx : World => run_from (P := Tryz.prog) (w := wx) Tryz.underlying9 s .i64 k (by omega)
  rw [hL, ← ht] at hI1
  obtain ⟨XT, hXT⟩ : ∃ S : ByteArray, S = ⟨t.toArray⟩ := ⟨_, rfl⟩
  rw [← hXT] at hI1
  have hXs : XT.size = t.length := by rw [hXT, str_size]
  rw [← ht] at h2
  rw [Pat.fr1_short h2] at hF
  rw [Pat.rdP_err hm (by rw [hF]; decide), hF]
  have h2I : (XT.size : Int) < 2 := by omega
  clear hL hs hm hrd hk ha hls hF htl ht hXT hXs h2
  go_enter Tryz.func57, Tryz.ntmps57
  go_wp2_with fail
  refine Calls.mono HVO.out ?_
  rintro e w1 ⟨rfl, hx⟩
  have HX1 := hid hx
  clear hx
  go_wp2
  go_returns
  exact ⟨none, 0, rfl, fun h => by simp [u64s] at h, HX1.out⟩
set_option maxHeartbeats 1600000 in
theorem patchOf_wide (s : ByteArray) (L : List UInt8) (hL : s.data.toList = L) (m : Nat) (w : World) (hs : s.size ≤ 281474976710656) (hm : m ≤ 64) (a k e0 : Nat) (hrd : Vary.rd L = (a, k, e0)) (hk : k ≤ L.length) (ha : a < 18446744073709551616) (he : e0 = 0) (c d : UInt8) (u : List UInt8) (hcd : L.drop k = c :: d :: u) (h64 : 64 < c.toNat) :
    Calls Tryz.prog 57 #[.string s, .int .i64 m] w (NumsOut (Pat.rdP L m).1 (Pat.rdP L m).2 w) := by
  have hls : L.length = s.size := by rw [← hL]; simp
  have HVO := hid (varyOf_any s w hs)
  rw [hL, hrd] at HVO
  have hmI : (m : Int) ≤ 64 := by omega
  have haI : (a : Int) ≤ 18446744073709551615 := by omega
  have hkI : (k : Int) ≤ 281474976710656 := by omega
  subst he
  have hF := Pat.fr_ok (many := m) hrd
  obtain ⟨t, ht⟩ : ∃ t, t = L.drop k := ⟨_, rfl⟩
  rw [← ht] at hF
  have htl : t.length ≤ 281474976710656 := by rw [ht, List.length_drop]; omega
  have hI1 := fun wx : World => run_from (P := Tryz.prog) (w := wx) Tryz.underlying9 s .i64 k (by omega)
  rw [hL, ← ht] at hI1
  obtain ⟨XT, hXT⟩ : ∃ S : ByteArray, S = ⟨t.toArray⟩ := ⟨_, rfl⟩
  rw [← hXT] at hI1
  have hXs : XT.size = t.length := by rw [hXT, str_size]
  rw [hcd] at ht
  subst ht
  rw [Pat.fr1_cons] at hF
  have hul : u.length ≤ 281474976710656 := by rw [List.length_cons, List.length_cons] at htl; omega
  have hXd : XT.data.toList = c :: d :: u := by rw [hXT]
  have h2I : (2 : Int) ≤ (XT.size : Int) := by rw [hXs]; simp only [List.length_cons]; omega
  have hxI : (XT.size : Int) ≤ 281474976710656 := by omega
  have hJ0 := fun wx : World => run_ix0 (P := Tryz.prog) (w := wx) Tryz.underlying9 XT .i64 c (d :: u) hXd
  have hJ1 := fun wx : World => run_ix (P := Tryz.prog) (w := wx) Tryz.underlying9 XT .i64 1 d (by rw [hXd]; rfl)
  have i11 : ((1 : Nat) : Int) = 1 := rfl
  rw [i11] at hJ1
  have hJ2 := fun wx : World => run_from (P := Tryz.prog) (w := wx) Tryz.underlying9 XT .i64 2 (by omega)
  have i22 : ((2 : Nat) : Int) = 2 := rfl
  rw [hXd, i22, show (c :: d :: u).drop 2 = u from rfl] at hJ2
  obtain ⟨XU, hXU⟩ : ∃ S : ByteArray, S = ⟨u.toArray⟩ := ⟨_, rfl⟩
  rw [← hXU] at hJ2
  have hXUs : XU.size = u.length := by rw [hXU, str_size]
  have hXUd : XU.data.toList = u := by rw [hXU]
  have hcI : (c.toNat : Int) ≤ 255 := by have := c.toNat_lt; omega
  have hdI : (d.toNat : Int) ≤ 255 := by have := d.toNat_lt; omega
  rw [Pat.fr2_wide h64] at hF
  rw [Pat.rdP_err hm (by rw [hF]; decide), hF]
  have hcw : 64 < (c.toNat : Int) := by omega
  clear hL hs hm hrd hk ha hls hF htl hXT hXs h64 hul hXd hXU hXUs hXUd hcd
  generalize c.toNat = wd at *
  generalize d.toNat = q at *
  go_enter Tryz.func57, Tryz.ntmps57
  go_wp2_with fail
  refine Calls.mono HVO.out ?_
  rintro e w1 ⟨rfl, hx⟩
  have HX1 := hid hx
  clear hx
  go_wp2_with fail
  go_quiet (fail)
  have HX1b := hid (Ext.draws HX1.out nq)
  clear HX1
  have HX1 := HX1b
  clear HX1b
  go_wp2
  go_returns
  exact ⟨none, 0, rfl, fun h => by simp [u64s] at h, HX1.out⟩
set_option maxHeartbeats 1600000 in
theorem patchOf_short2 (s : ByteArray) (L : List UInt8) (hL : s.data.toList = L) (m : Nat) (w : World) (hs : s.size ≤ 281474976710656) (hm : m ≤ 64) (a k e0 : Nat) (hrd : Vary.rd L = (a, k, e0)) (hk : k ≤ L.length) (ha : a < 18446744073709551616) (he : e0 = 0) (c d : UInt8) (u : List UInt8) (hcd : L.drop k = c :: d :: u) (h64 : ¬ 64 < c.toNat) (h5 : u.length < Bits.size m c.toNat) :
    Calls Tryz.prog 57 #[.string s, .int .i64 m] w (NumsOut (Pat.rdP L m).1 (Pat.rdP L m).2 w) := by
  have hls : L.length = s.size := by rw [← hL]; simp
  have HVO := hid (varyOf_any s w hs)
  rw [hL, hrd] at HVO
  have hmI : (m : Int) ≤ 64 := by omega
  have haI : (a : Int) ≤ 18446744073709551615 := by omega
  have hkI : (k : Int) ≤ 281474976710656 := by omega
  subst he
  have hF := Pat.fr_ok (many := m) hrd
  obtain ⟨t, ht⟩ : ∃ t, t = L.drop k := ⟨_, rfl⟩
  rw [← ht] at hF
  have htl : t.length ≤ 281474976710656 := by rw [ht, List.length_drop]; omega
  have hI1 := fun wx : World => run_from (P := Tryz.prog) (w := wx) Tryz.underlying9 s .i64 k (by omega)
  rw [hL, ← ht] at hI1
  obtain ⟨XT, hXT⟩ : ∃ S : ByteArray, S = ⟨t.toArray⟩ := ⟨_, rfl⟩
  rw [← hXT] at hI1
  have hXs : XT.size = t.length := by rw [hXT, str_size]
  rw [hcd] at ht
  subst ht
  rw [Pat.fr1_cons] at hF
  have hul : u.length ≤ 281474976710656 := by rw [List.length_cons, List.length_cons] at htl; omega
  have hXd : XT.data.toList = c :: d :: u := by rw [hXT]
  have h2I : (2 : Int) ≤ (XT.size : Int) := by rw [hXs]; simp only [List.length_cons]; omega
  have hxI : (XT.size : Int) ≤ 281474976710656 := by omega
  have hJ0 := fun wx : World => run_ix0 (P := Tryz.prog) (w := wx) Tryz.underlying9 XT .i64 c (d :: u) hXd
  have hJ1 := fun wx : World => run_ix (P := Tryz.prog) (w := wx) Tryz.underlying9 XT .i64 1 d (by rw [hXd]; rfl)
  have i11 : ((1 : Nat) : Int) = 1 := rfl
  rw [i11] at hJ1
  have hJ2 := fun wx : World => run_from (P := Tryz.prog) (w := wx) Tryz.underlying9 XT .i64 2 (by omega)
  have i22 : ((2 : Nat) : Int) = 2 := rfl
  rw [hXd, i22, show (c :: d :: u).drop 2 = u from rfl] at hJ2
  obtain ⟨XU, hXU⟩ : ∃ S : ByteArray, S = ⟨u.toArray⟩ := ⟨_, rfl⟩
  rw [← hXU] at hJ2
  have hXUs : XU.size = u.length := by rw [hXU, str_size]
  have hXUd : XU.data.toList = u := by rw [hXU]
  have hcI : (c.toNat : Int) ≤ 255 := by have := c.toNat_lt; omega
  have hdI : (d.toNat : Int) ≤ 255 := by have := d.toNat_lt; omega
  have hcw : (c.toNat : Int) ≤ 64 := by omega
  have hmul : (m : Int) * (c.toNat : Int) = ((m * c.toNat : Nat) : Int) := by simp
  have hmb : m * c.toNat ≤ 4096 := Nat.mul_le_mul hm (show c.toNat ≤ 64 by omega)
  have hsz : (((m * c.toNat : Nat) : Int) + 7) / 8 = (Bits.size m c.toNat : Nat) := by unfold Bits.size; omega
  have hszt : (((m * c.toNat : Nat) : Int) + 7).tdiv 8 = (Bits.size m c.toNat : Nat) := by rw [Int.tdiv_eq_ediv_of_nonneg (by omega)]; exact hsz
  have hszb : Bits.size m c.toNat ≤ 512 := by unfold Bits.size; omega
  have hmbI : ((m * c.toNat : Nat) : Int) ≤ 4096 := by omega
  have hszI : ((Bits.size m c.toNat : Nat) : Int) ≤ 512 := by omega
  rw [Pat.fr2_short h64 h5] at hF
  rw [Pat.rdP_err hm (by rw [hF]; decide), hF]
  have h5I : (XU.size : Int) < (Bits.size m c.toNat : Nat) := by omega
  clear hL hs hm hrd hk ha hls hF htl hXT hXs h64 hul hXd hXU hXUs hXUd hcd h5 hmb hszb
  generalize m * c.toNat = mw at *
  generalize Bits.size m c.toNat = sz at *
  generalize c.toNat = wd at *
  generalize d.toNat = q at *
  go_enter Tryz.func57, Tryz.ntmps57
  go_wp2_with fail
  refine Calls.mono HVO.out ?_
  rintro e w1 ⟨rfl, hx⟩
  have HX1 := hid hx
  clear hx
  go_wp2_with fail
  go_quiet (fail)
  have HX1b := hid (Ext.draws HX1.out nq)
  clear HX1
  have HX1 := HX1b
  clear HX1b
  go_wp2
  go_returns
  exact ⟨none, 0, rfl, fun h => by simp [u64s] at h, HX1.out⟩
set_option maxHeartbeats 1600000 in
theorem patchOf_bad (s : ByteArray) (L : List UInt8) (hL : s.data.toList = L) (m : Nat) (w : World) (hs : s.size ≤ 281474976710656) (hm : m ≤ 64) (a k e0 : Nat) (hrd : Vary.rd L = (a, k, e0)) (hk : k ≤ L.length) (ha : a < 18446744073709551616) (he : e0 = 0) (c d : UInt8) (u : List UInt8) (hcd : L.drop k = c :: d :: u) (h64 : ¬ 64 < c.toNat) (h5 : ¬ u.length < Bits.size m c.toNat) (h6 : Bits.chk (u.take (Bits.size m c.toNat)) m c.toNat ≠ 0) :
    Calls Tryz.prog 57 #[.string s, .int .i64 m] w (NumsOut (Pat.rdP L m).1 (Pat.rdP L m).2 w) := by
  have hls : L.length = s.size := by rw [← hL]; simp
  have HVO := hid (varyOf_any s w hs)
  rw [hL, hrd] at HVO
  have hmI : (m : Int) ≤ 64 := by omega
  have haI : (a : Int) ≤ 18446744073709551615 := by omega
  have hkI : (k : Int) ≤ 281474976710656 := by omega
  subst he
  have hF := Pat.fr_ok (many := m) hrd
  obtain ⟨t, ht⟩ : ∃ t, t = L.drop k := ⟨_, rfl⟩
  rw [← ht] at hF
  have htl : t.length ≤ 281474976710656 := by rw [ht, List.length_drop]; omega
  have hI1 := fun wx : World => run_from (P := Tryz.prog) (w := wx) Tryz.underlying9 s .i64 k (by omega)
  rw [hL, ← ht] at hI1
  obtain ⟨XT, hXT⟩ : ∃ S : ByteArray, S = ⟨t.toArray⟩ := ⟨_, rfl⟩
  rw [← hXT] at hI1
  have hXs : XT.size = t.length := by rw [hXT, str_size]
  rw [hcd] at ht
  subst ht
  rw [Pat.fr1_cons] at hF
  have hul : u.length ≤ 281474976710656 := by rw [List.length_cons, List.length_cons] at htl; omega
  have hXd : XT.data.toList = c :: d :: u := by rw [hXT]
  have h2I : (2 : Int) ≤ (XT.size : Int) := by rw [hXs]; simp only [List.length_cons]; omega
  have hxI : (XT.size : Int) ≤ 281474976710656 := by omega
  have hJ0 := fun wx : World => run_ix0 (P := Tryz.prog) (w := wx) Tryz.underlying9 XT .i64 c (d :: u) hXd
  have hJ1 := fun wx : World => run_ix (P := Tryz.prog) (w := wx) Tryz.underlying9 XT .i64 1 d (by rw [hXd]; rfl)
  have i11 : ((1 : Nat) : Int) = 1 := rfl
  rw [i11] at hJ1
  have hJ2 := fun wx : World => run_from (P := Tryz.prog) (w := wx) Tryz.underlying9 XT .i64 2 (by omega)
  have i22 : ((2 : Nat) : Int) = 2 := rfl
  rw [hXd, i22, show (c :: d :: u).drop 2 = u from rfl] at hJ2
  obtain ⟨XU, hXU⟩ : ∃ S : ByteArray, S = ⟨u.toArray⟩ := ⟨_, rfl⟩
  rw [← hXU] at hJ2
  have hXUs : XU.size = u.length := by rw [hXU, str_size]
  have hXUd : XU.data.toList = u := by rw [hXU]
  have hcI : (c.toNat : Int) ≤ 255 := by have := c.toNat_lt; omega
  have hdI : (d.toNat : Int) ≤ 255 := by have := d.toNat_lt; omega
  have hcw : (c.toNat : Int) ≤ 64 := by omega
  have hmul : (m : Int) * (c.toNat : Int) = ((m * c.toNat : Nat) : Int) := by simp
  have hmb : m * c.toNat ≤ 4096 := Nat.mul_le_mul hm (show c.toNat ≤ 64 by omega)
  have hsz : (((m * c.toNat : Nat) : Int) + 7) / 8 = (Bits.size m c.toNat : Nat) := by unfold Bits.size; omega
  have hszt : (((m * c.toNat : Nat) : Int) + 7).tdiv 8 = (Bits.size m c.toNat : Nat) := by rw [Int.tdiv_eq_ediv_of_nonneg (by omega)]; exact hsz
  have hszb : Bits.size m c.toNat ≤ 512 := by unfold Bits.size; omega
  have hmbI : ((m * c.toNat : Nat) : Int) ≤ 4096 := by omega
  have hszI : ((Bits.size m c.toNat : Nat) : Int) ≤ 512 := by omega
  have h5I : ((Bits.size m c.toNat : Nat) : Int) ≤ (XU.size : Int) := by omega
  have hJ3 := fun wx : World => run_to (P := Tryz.prog) (w := wx) Tryz.underlying9 XU .i64 (Bits.size m c.toNat) (by omega)
  have hJ4 := fun wx : World => run_from (P := Tryz.prog) (w := wx) Tryz.underlying9 XU .i64 (Bits.size m c.toNat) (by omega)
  rw [hXUd] at hJ3 hJ4
  have HU := hid (fun wx => unpackOf_own ⟨(u.take (Bits.size m c.toNat)).toArray⟩ (m : Int) (c.toNat : Int) wx (by rw [str_size, List.length_take]; omega))
  rw [show (⟨(u.take (Bits.size m c.toNat)).toArray⟩ : ByteArray).data.toList = u.take (Bits.size m c.toNat) by simp] at HU
  obtain ⟨XP, hXP⟩ : ∃ S : ByteArray, S = ⟨(u.take (Bits.size m c.toNat)).toArray⟩ := ⟨_, rfl⟩
  obtain ⟨XR, hXR⟩ : ∃ S : ByteArray, S = ⟨(u.drop (Bits.size m c.toNat)).toArray⟩ := ⟨_, rfl⟩
  rw [← hXP] at hJ3 HU
  rw [← hXR] at hJ4
  have HXR := hid hXR
  unfold NumsOwn at HU
  rw [Pat.fr2_bad h64 h5 h6] at hF
  rw [Pat.rdP_err hm (by rw [hF]; exact h6), hF]
  have hE := Bits.chk_cases (u.take (Bits.size m c.toNat)) m c.toNat
  generalize Bits.chk (u.take (Bits.size m c.toNat)) m c.toNat = E at *
  have hEI : (E : Int) ≤ 3 := by omega
  have h7 : ((E : Int) != 0) = true := by rw [bne_iff_ne]; omega
  have h8 : ((E : Int) == 0) = false := by rw [beq_eq_false_iff_ne]; omega
  generalize Bits.up (u.take (Bits.size m c.toNat)) m c.toNat = U at *
  clear hL hs hm hrd hk ha hls hF htl hXT hXs h64 hul hXd hXU hXUs hXUd hcd h5 hmb hszb hXP hXR h6 hE
  generalize m * c.toNat = mw at *
  generalize Bits.size m c.toNat = sz at *
  generalize c.toNat = wd at *
  generalize d.toNat = q at *
  go_enter Tryz.func57, Tryz.ntmps57
  go_wp2_with fail
  refine Calls.mono HVO.out ?_
  rintro e w1 ⟨rfl, hx⟩
  have HX1 := hid hx
  clear hx
  go_wp2_with fail
  go_quiet (fail)
  have HX1b := hid (Ext.draws HX1.out nq)
  clear HX1
  have HX1 := HX1b
  clear HX1b
  go_wp2_with fail
  refine Calls.mono (HU.out _) ?_
  rintro e w2 ⟨v, rfl, hown, hx⟩
  have HX2 := hid (HX1.out.then hx)
  have HOW := hid (own_lower hown HX1.out.size)
  clear hown hx
  go_wp2
  go_returns
  exact ⟨none, 0, rfl, fun h => by simp [u64s] at h, HX2.out⟩
set_option maxRecDepth 100000 in
set_option maxHeartbeats 6400000 in
theorem patchOf_loop (s : ByteArray) (L : List UInt8) (hL : s.data.toList = L) (m : Nat) (w : World) (hs : s.size ≤ 281474976710656) (hm : m ≤ 64) (a k e0 : Nat) (hrd : Vary.rd L = (a, k, e0)) (hk : k ≤ L.length) (ha : a < 18446744073709551616) (he : e0 = 0) (c d : UInt8) (u : List UInt8) (hcd : L.drop k = c :: d :: u) (h64 : ¬ 64 < c.toNat) (h5 : ¬ u.length < Bits.size m c.toNat) (h6 : Bits.chk (u.take (Bits.size m c.toNat)) m c.toNat = 0) :
    Calls Tryz.prog 57 #[.string s, .int .i64 m] w (NumsOut (Pat.rdP L m).1 (Pat.rdP L m).2 w) := by
  have hls : L.length = s.size := by rw [← hL]; simp
  have HVO := hid (varyOf_any s w hs)
  rw [hL, hrd] at HVO
  have hmI : (m : Int) ≤ 64 := by omega
  have haI : (a : Int) ≤ 18446744073709551615 := by omega
  have hkI : (k : Int) ≤ 281474976710656 := by omega
  subst he
  have hF := Pat.fr_ok (many := m) hrd
  obtain ⟨t, ht⟩ : ∃ t, t = L.drop k := ⟨_, rfl⟩
  rw [← ht] at hF
  have htl : t.length ≤ 281474976710656 := by rw [ht, List.length_drop]; omega
  have hI1 := fun wx : World => run_from (P := Tryz.prog) (w := wx) Tryz.underlying9 s .i64 k (by omega)
  rw [hL, ← ht] at hI1
  obtain ⟨XT, hXT⟩ : ∃ S : ByteArray, S = ⟨t.toArray⟩ := ⟨_, rfl⟩
  rw [← hXT] at hI1
  have hXs : XT.size = t.length := by rw [hXT, str_size]
  rw [hcd] at ht
  subst ht
  rw [Pat.fr1_cons] at hF
  have hul : u.length ≤ 281474976710656 := by rw [List.length_cons, List.length_cons] at htl; omega
  have hXd : XT.data.toList = c :: d :: u := by rw [hXT]
  have h2I : (2 : Int) ≤ (XT.size : Int) := by rw [hXs]; simp only [List.length_cons]; omega
  have hxI : (XT.size : Int) ≤ 281474976710656 := by omega
  have hJ0 := fun wx : World => run_ix0 (P := Tryz.prog) (w := wx) Tryz.underlying9 XT .i64 c (d :: u) hXd
  have hJ1 := fun wx : World => run_ix (P := Tryz.prog) (w := wx) Tryz.underlying9 XT .i64 1 d (by rw [hXd]; rfl)
  have i11 : ((1 : Nat) : Int) = 1 := rfl
  rw [i11] at hJ1
  have hJ2 := fun wx : World => run_from (P := Tryz.prog) (w := wx) Tryz.underlying9 XT .i64 2 (by omega)
  have i22 : ((2 : Nat) : Int) = 2 := rfl
  rw [hXd, i22, show (c :: d :: u).drop 2 = u from rfl] at hJ2
  obtain ⟨XU, hXU⟩ : ∃ S : ByteArray, S = ⟨u.toArray⟩ := ⟨_, rfl⟩
  rw [← hXU] at hJ2
  have hXUs : XU.size = u.length := by rw [hXU, str_size]
  have hXUd : XU.data.toList = u := by rw [hXU]
  have hcI : (c.toNat : Int) ≤ 255 := by have := c.toNat_lt; omega
  have hdI : (d.toNat : Int) ≤ 255 := by have := d.toNat_lt; omega
  have hcw : (c.toNat : Int) ≤ 64 := by omega
  have hmul : (m : Int) * (c.toNat : Int) = ((m * c.toNat : Nat) : Int) := by simp
  have hmb : m * c.toNat ≤ 4096 := Nat.mul_le_mul hm (show c.toNat ≤ 64 by omega)
  have hsz : (((m * c.toNat : Nat) : Int) + 7) / 8 = (Bits.size m c.toNat : Nat) := by unfold Bits.size; omega
  have hszt : (((m * c.toNat : Nat) : Int) + 7).tdiv 8 = (Bits.size m c.toNat : Nat) := by rw [Int.tdiv_eq_ediv_of_nonneg (by omega)]; exact hsz
  have hszb : Bits.size m c.toNat ≤ 512 := by unfold Bits.size; omega
  have hmbI : ((m * c.toNat : Nat) : Int) ≤ 4096 := by omega
  have hszI : ((Bits.size m c.toNat : Nat) : Int) ≤ 512 := by omega
  have h5I : ((Bits.size m c.toNat : Nat) : Int) ≤ (XU.size : Int) := by omega
  have hJ3 := fun wx : World => run_to (P := Tryz.prog) (w := wx) Tryz.underlying9 XU .i64 (Bits.size m c.toNat) (by omega)
  have hJ4 := fun wx : World => run_from (P := Tryz.prog) (w := wx) Tryz.underlying9 XU .i64 (Bits.size m c.toNat) (by omega)
  rw [hXUd] at hJ3 hJ4
  have HU := hid (fun wx => unpackOf_own ⟨(u.take (Bits.size m c.toNat)).toArray⟩ (m : Int) (c.toNat : Int) wx (by rw [str_size, List.length_take]; omega))
  rw [show (⟨(u.take (Bits.size m c.toNat)).toArray⟩ : ByteArray).data.toList = u.take (Bits.size m c.toNat) by simp] at HU
  obtain ⟨XP, hXP⟩ : ∃ S : ByteArray, S = ⟨(u.take (Bits.size m c.toNat)).toArray⟩ := ⟨_, rfl⟩
  obtain ⟨XR, hXR⟩ : ∃ S : ByteArray, S = ⟨(u.drop (Bits.size m c.toNat)).toArray⟩ := ⟨_, rfl⟩
  rw [← hXP] at hJ3 HU
  rw [← hXR] at hJ4
  have HXR := hid hXR
  unfold NumsOwn at HU
  rw [Pat.fr2_ok h64 h5 h6] at hF
  have HUP := hid (Bits.up_ok _ _ _ h6)
  simp only [Int.toNat_natCast] at HUP
  rw [h6, HUP.out] at HU
  have HUL := hid (Bits.unp_len (u.take (Bits.size m c.toNat)) m c.toNat)
  have HUX := hid (show ∀ z ∈ Bits.unp (u.take (Bits.size m c.toNat)) m c.toNat, z < 18446744073709551616 from fun z hz => by
    have h1 := Bits.unp_lt _ _ _ z hz
    have h2 : 2 ^ c.toNat ≤ 2 ^ 64 := Nat.pow_le_pow_right (by decide) (by omega)
    omega)
  generalize Bits.unp (u.take (Bits.size m c.toNat)) m c.toNat = U at *
  rw [HUL.out] at HU
  have HUD := hid hul
  have HM := hid hm
  have HF := hid hF
  have HWD := hid (show c.toNat ≤ 9223372036854775806 by omega)
  clear hL hs hm hrd hk ha hls hF htl hXT hXs h64 hul hXd hXU hXUs hXUd hcd h5 hmb hszb hXP hXR h6 HUP
  generalize m * c.toNat = mw at *
  generalize Bits.size m c.toNat = sz at *
  generalize c.toNat = wd at *
  generalize d.toNat = q at *
  go_enter Tryz.func57, Tryz.ntmps57
  go_wp2_with fail
  refine Calls.mono HVO.out ?_
  rintro e w1 ⟨rfl, hx⟩
  have HX1 := hid hx
  clear hx
  go_wp2_with fail
  go_quiet (fail)
  have HX1b := hid (Ext.draws HX1.out nq)
  clear HX1
  have HX1 := HX1b
  clear HX1b
  go_wp2_with fail
  refine Calls.mono (HU.out _) ?_
  rintro e w2 ⟨v, rfl, hown, hx⟩
  have HX2 := hid (HX1.out.then hx)
  have HOW := hid (own_lower hown HX1.out.size)
  clear hown hx
  obtain ⟨V, cv, rfl, _⟩ := Rd.owned HOW.out
  go_wp2
  go_loopw [0, 13, 14, 15, 16, 17, 18] (fun s9 l9 c9 _ _ _ _ wr => ∃ (j : Nat) (last : Int) (M : List Nat) (x : List UInt8), j ≤ q ∧ c9 = .int .i64 j ∧ l9 = .int .i64 last ∧ s9 = .string ⟨x.toArray⟩ ∧ -1 ≤ last ∧ last ≤ 255 ∧ Hid (Pat.onS wd q U (-1) (u.drop sz) = Pat.onS wd (q - j) M last x) ∧ Hid (M.length = m) ∧ Hid (x.length ≤ 281474976710656) ∧ Hid (∀ z ∈ M, z < 18446744073709551616) ∧ Hid (wr.ownsRow w.heap.size 39 1 (.slice V m cv) m (u64s M)) ∧ Hid (Ext w wr)) (fun _ _ c9 _ _ _ _ _ => q - (intOf c9).toNat)
  case atStart => exact ⟨0, -1, U, u.drop sz, Nat.zero_le _, rfl, rfl, by rw [HXR.out], by omega, by omega, hid rfl, HUL, hid (by have := HUD.out; rw [List.length_drop]; omega), HUX, HOW, HX2⟩
  case round =>
    obtain ⟨j, last, M, x, hj, rfl, rfl, rfl, hl0, hl1, HON, HML, HXL, HMX, HO, HX⟩ := hrel
    by_cases hlt : j < q
    · have hjI : (j : Int) < (q : Int) := by omega
      obtain ⟨r, hr⟩ : ∃ r, q - j = r + 1 := ⟨q - j - 1, by omega⟩
      rw [hr] at HON
      have HQJ := hid (show q - (j + 1) = r by omega)
      have HS := hid (Pat.onS_succ wd r M last x)
      clear hr
      have hxl : x.length ≤ 281474976710656 := HXL.out
      obtain ⟨XX, hXX⟩ : ∃ S : ByteArray, S = ⟨x.toArray⟩ := ⟨_, rfl⟩
      rw [← hXX]
      have hXXs : XX.size = x.length := by rw [hXX, str_size]
      have hXXI : (XX.size : Int) ≤ 281474976710656 := by omega
      cases x with
      | nil =>
        have HEE := hid (Pat.onE_nil (w := wd) (M := M) (last := last))
        have HR := hid (show Pat.rdP L (m : Int) = ([], 5) by
          have h1 : (Pat.onS wd q U (-1) (u.drop sz)).1 = 5 := by rw [HON.out, HS.out, HEE.out, if_pos (by show (5 : Nat) ≠ 0; decide)]
          have h2 : Pat.fr L m = (5, 0, []) := by rw [HF.out, Pat.fr3_err (by rw [h1]; decide), h1]
          rw [Pat.rdP_err HM.out (by rw [h2]; decide), h2])
        have hz : (XX.size : Int) = 0 := by rw [hXXs]; rfl
        clear hXX hXXs hlt hxl
        go_wp2
        go_returns
        rw [HR.out]
        exact ⟨none, 0, rfl, fun h => by simp [u64s] at h, HX.out⟩
      | cons y t =>
        have h1I : (1 : Int) ≤ (XX.size : Int) := by rw [hXXs, List.length_cons]; omega
        have hXd : XX.data.toList = y :: t := by rw [hXX]
        have hI0 := fun wx : World => run_ix0 (P := Tryz.prog) (w := wx) Tryz.underlying9 XX .i64 y t hXd
        have hI2 := fun wx : World => run_from (P := Tryz.prog) (w := wx) Tryz.underlying9 XX .i64 1 (by omega)
        have i11 : ((1 : Nat) : Int) = 1 := rfl
        rw [hXd, i11, show (y :: t).drop 1 = t from rfl] at hI2
        obtain ⟨XY, hXY⟩ : ∃ S : ByteArray, S = ⟨t.toArray⟩ := ⟨_, rfl⟩
        rw [← hXY] at hI2
        have hyI : (y.toNat : Int) ≤ 255 := by have := y.toNat_lt; omega
        have hml : M.length = m := HML.out
        have htl : t.length ≤ 281474976710655 := by rw [List.length_cons] at hxl; omega
        by_cases c1 : M.length ≤ y.toNat
        · have HEE := hid (Pat.onE_range (w := wd) (last := last) (t := t) c1)
          have HR := hid (show Pat.rdP L (m : Int) = ([], 3) by
            have h1 : (Pat.onS wd q U (-1) (u.drop sz)).1 = 3 := by rw [HON.out, HS.out, HEE.out, if_pos (by show (3 : Nat) ≠ 0; decide)]
            have h2 : Pat.fr L m = (3, 0, []) := by rw [HF.out, Pat.fr3_err (by rw [h1]; decide), h1]
            rw [Pat.rdP_err HM.out (by rw [h2]; decide), h2])
          have g1 : (m : Int) ≤ (y.toNat : Int) := by omega
          clear hXX hXXs hlt hxl hXd hXY hml htl c1
          generalize y.toNat = z at *
          go_wp2
          go_returns
          rw [HR.out]
          exact ⟨none, 0, rfl, fun h => by simp [u64s] at h, HX.out⟩
        by_cases c2 : (y.toNat : Int) ≤ last
        · have HEE := hid (Pat.onE_state (w := wd) (t := t) c1 c2)
          have HR := hid (show Pat.rdP L (m : Int) = ([], 4) by
            have h1 : (Pat.onS wd q U (-1) (u.drop sz)).1 = 4 := by rw [HON.out, HS.out, HEE.out, if_pos (by show (4 : Nat) ≠ 0; decide)]
            have h2 : Pat.fr L m = (4, 0, []) := by rw [HF.out, Pat.fr3_err (by rw [h1]; decide), h1]
            rw [Pat.rdP_err HM.out (by rw [h2]; decide), h2])
          have g1 : (y.toNat : Int) < (m : Int) := by omega
          clear hXX hXXs hlt hxl hXd hXY hml htl c1
          generalize y.toNat = z at *
          go_wp2
          go_returns
          rw [HR.out]
          exact ⟨none, 0, rfl, fun h => by simp [u64s] at h, HX.out⟩
        obtain ⟨x0, hx0⟩ : ∃ x0, M[y.toNat]? = some x0 := ⟨M[y.toNat]'(by omega), List.getElem?_eq_getElem (by omega)⟩
        have hx0l := HMX.out x0 (List.mem_of_getElem? hx0)
        have hx0I : (x0 : Int) ≤ 18446744073709551615 := by omega
        have g1 : (y.toNat : Int) < (m : Int) := by omega
        have hgd : M.getD y.toNat 0 = x0 := by rw [List.getD_eq_getElem?_getD, hx0]; rfl
        have hcel : (u64s M)[y.toNat]? = some (.int .u64 (x0 : Int)) := by unfold u64s; rw [List.getElem?_map, hx0]; rfl
        obtain ⟨g3, c3, hv3, hbg, hg3, cur, hb3⟩ := own_base HO.out (by omega)
        cases hv3
        have d0 := HO.out.cellAt y.toNat (by omega)
        have f0 := HO.out.frozenAt y.toNat
        rw [hcel] at d0
        have HBG := hid hbg
        by_cases c3 : x0 = 0
        rotate_left
        · have HEE := hid (Pat.onE_form (w := wd) (t := t) c1 c2 (by rw [hgd]; exact c3))
          have HR := hid (show Pat.rdP L (m : Int) = ([], 1) by
            have h1 : (Pat.onS wd q U (-1) (u.drop sz)).1 = 1 := by rw [HON.out, HS.out, HEE.out, if_pos (by show (1 : Nat) ≠ 0; decide)]
            have h2 : Pat.fr L m = (1, 0, []) := by rw [HF.out, Pat.fr3_err (by rw [h1]; decide), h1]
            rw [Pat.rdP_err HM.out (by rw [h2]; decide), h2])
          have e3 : ((x0 : Int) != 0) = true := by rw [bne_iff_ne]; omega
          have e4 : ((x0 : Int) == 0) = false := by rw [beq_eq_false_iff_ne]; omega
          clear hXX hXXs hlt hxl hXd hXY hml htl hx0 hx0l hgd hcel hb3 hg3 c1 hbg c3
          generalize y.toNat = z at *
          go_wp2
          go_returns
          rw [HR.out]
          exact ⟨none, 0, rfl, fun h => by simp [u64s] at h, HX.out⟩
        subst c3
        have hXYs : XY.size ≤ 281474976710656 := by rw [hXY, str_size]; omega
        have CV := hid (fun wx => varyOf_any XY wx hXYs)
        rw [show XY.data.toList = t by rw [hXY]] at CV
        obtain ⟨⟨n, kk, ee⟩, hrt⟩ : ∃ p, Vary.rd t = p := ⟨_, rfl⟩
        have hbd := Vary.rd_bd t
        rw [hrt] at CV hbd
        simp only at hbd CV
        have hnI : (n : Int) ≤ 18446744073709551615 := by omega
        have hkkI : (kk : Int) ≤ (t.length : Int) := by omega
        have hkk2 : (kk : Int) ≤ 281474976710655 := by omega
        have heI : (ee : Int) ≤ 5 := by omega
        by_cases c4 : ee = 0
        rotate_left
        · have HEE := hid (Pat.onE_vary (w := wd) c1 c2 hgd hrt c4)
          have HC4 := hid c4
          have HR := hid (show Pat.rdP L (m : Int) = ([], ee) by
            have h1 : (Pat.onS wd q U (-1) (u.drop sz)).1 = ee := by rw [HON.out, HS.out, HEE.out, if_pos (by show (ee : Nat) ≠ 0; exact HC4.out)]
            have h2 : Pat.fr L m = (ee, 0, []) := by rw [HF.out, Pat.fr3_err (by rw [h1]; exact HC4.out), h1]
            rw [Pat.rdP_err HM.out (by rw [h2]; exact HC4.out), h2])
          have e5 : ((ee : Int) != 0) = true := by rw [bne_iff_ne]; omega
          have e6 : ((ee : Int) == 0) = false := by rw [beq_eq_false_iff_ne]; omega
          clear hXX hXXs hlt hxl hXd hXY hml htl hx0 hx0l hgd hcel hb3 hg3 c1 hbg hXYs hrt hbd c4 hkkI
          generalize y.toNat = z at *
          go_wp2_with fail
          refine Calls.mono (CV.out _) ?_
          rintro e w3 ⟨rfl, hx⟩
          have HX3 := hid (HX.out.then hx)
          have HO3 := hid (own_ext HO.out hx)
          clear hx
          go_wp2
          go_returns
          rw [HR.out]
          exact ⟨none, 0, rfl, fun h => by simp [u64s] at h, HX3.out⟩
        subst c4
        have CFI := hid (fun wx => fits_any n wd wx hbd.2.1 HWD.out)
        by_cases c5 : Lib.bitLen n ≤ wd
        · have HEE := hid (Pat.onE_fits c1 c2 hgd hrt c5)
          have HR := hid (show Pat.rdP L (m : Int) = ([], 1) by
            have h1 : (Pat.onS wd q U (-1) (u.drop sz)).1 = 1 := by rw [HON.out, HS.out, HEE.out, if_pos (by show (1 : Nat) ≠ 0; decide)]
            have h2 : Pat.fr L m = (1, 0, []) := by rw [HF.out, Pat.fr3_err (by rw [h1]; decide), h1]
            rw [Pat.rdP_err HM.out (by rw [h2]; decide), h2])
          rw [Bits.fitsB_true c5] at CFI
          clear hXX hXXs hlt hxl hXd hXY hml htl hx0 hx0l hgd hcel hb3 hg3 c1 hbg hXYs hrt hbd c5 hkkI
          generalize y.toNat = z at *
          go_wp2_with fail
          refine Calls.mono (CV.out _) ?_
          rintro e w3 ⟨rfl, hx⟩
          have HX3 := hid (HX.out.then hx)
          have HO3 := hid (own_ext HO.out hx)
          clear hx
          go_wp2_with fail
          refine Calls.mono (CFI.out _) ?_
          rintro e _ ⟨rfl, rfl⟩
          go_wp2
          go_returns
          rw [HR.out]
          exact ⟨none, 0, rfl, fun h => by simp [u64s] at h, HX3.out⟩
        rw [Bits.fitsB_false (by omega)] at CFI
        have HEE := hid (Pat.onE_ok c1 c2 hgd hrt c5)
        have hI3 := fun wx : World => run_from (P := Tryz.prog) (w := wx) Tryz.underlying9 XX .i64 (1 + kk) (by rw [hXXs, List.length_cons]; omega)
        have i1k : ((1 + kk : Nat) : Int) = 1 + (kk : Int) := by omega
        rw [hXd, i1k, show (y :: t).drop (1 + kk) = t.drop kk by rw [Nat.add_comm]; rfl] at hI3
        have h1k : 1 + (kk : Int) ≤ (XX.size : Int) := by rw [hXXs, List.length_cons]; omega
        obtain ⟨XZ, hXZ⟩ : ∃ S : ByteArray, S = ⟨(t.drop kk).toArray⟩ := ⟨_, rfl⟩
        rw [← hXZ] at hI3
        have HXZ := hid hXZ
        have HZL := hid (show (t.drop kk).length ≤ 281474976710656 by rw [List.length_drop]; omega)
        have HZN := hid (show y.toNat < M.length by omega)
        have HSET := hid (show (u64s M).set y.toNat (.int .u64 (n : Int)) = u64s (M.set y.toNat n) from u64s_set M y.toNat n)
        have HMX2 := hid (show ∀ z ∈ M.set y.toNat n, z < 18446744073709551616 from fun z hz => by
          rcases List.mem_or_eq_of_mem_set hz with h | rfl
          · exact HMX.out z h
          · exact hbd.2.1)
        have HON2 := hid (show Pat.onS wd q U (-1) (u.drop sz) = Pat.onS wd (q - (j + 1)) (M.set y.toNat n) (y.toNat : Int) (t.drop kk) by rw [HON.out, HS.out, HEE.out, HQJ.out]; rfl)
        have HML2 := hid (show (M.set y.toNat n).length = m by rw [List.length_set]; exact hml)
        clear HON HS HEE
        clear hXX hXXs hlt hxl hXd hXY hml htl hx0 hx0l hgd hcel hb3 hg3 c1 hbg hXYs hrt hbd c5 hkkI hXZ
        generalize M.set y.toNat n = M2 at *
        generalize y.toNat = z at *
        go_wp2_with fail
        refine Calls.mono (CV.out _) ?_
        rintro e w3 ⟨rfl, hx⟩
        have HX3 := hid (HX.out.then hx)
        have HO3 := hid (own_ext HO.out hx)
        have d0 := HO3.out.cellAt z (by have := HZN.out; have := HML.out; omega)
        rw [show (u64s M)[z]? = some (.int .u64 ((M[z]'HZN.out : Nat) : Int)) from u64s_get M z HZN.out] at d0
        have f0 := HO3.out.frozenAt z
        clear hx
        go_wp2_with fail
        refine Calls.mono (CFI.out _) ?_
        rintro e _ ⟨rfl, rfl⟩
        go_wp2
        go_roundw
        case rel => exact ⟨j + 1, z, M2, t.drop kk, by omega, by go_num, rfl, by rw [HXZ.out], by omega, by omega, HON2, HML2, HZL, HMX2, hid (by rw [← HSET.out]; exact own_set HO3.out rfl z _), hid (HX3.out.put (p := ⟨g3, z, none⟩) HBG.out _)⟩
        case measure => simp [intOf] <;> omega
    · obtain rfl : j = q := by omega
      rw [Nat.sub_self] at HON
      have HON2 := hid (show Pat.onS wd j U (-1) (u.drop sz) = (0, M, x) by rw [HON.out]; rfl)
      have hxl : x.length ≤ 281474976710656 := HXL.out
      obtain ⟨XX, hXX⟩ : ∃ S : ByteArray, S = ⟨x.toArray⟩ := ⟨_, rfl⟩
      rw [← hXX]
      have hXXs : XX.size = x.length := by rw [hXX, str_size]
      have hXXI : (XX.size : Int) ≤ 281474976710656 := by omega
      by_cases hx0 : x = []
      · have h2 : Pat.fr L m = (0, a, M) := by rw [HF.out, Pat.fr3_ok (by rw [HON2.out]) (by rw [HON2.out]; exact hx0), HON2.out]
        have HR := hid (show Pat.rdP L (m : Int) = Pat.add a M by rw [Pat.rdP_ok HM.out (by rw [h2]), h2])
        have hz : (XX.size : Int) = 0 := by rw [hXXs, hx0]; rfl
        clear hXX hXXs hx0 h2 hxl hlt HON HON2 HXL hj
        go_wp2
        go_loopw [19] (fun c wr => ∃ (i : Nat), i ≤ m ∧ c = .int .i64 i ∧ Hid (∀ p, p < i → (M.getD p 0) + a < 18446744073709551616) ∧ Hid (wr.ownsRow w.heap.size 39 1 (.slice V m cv) m (u64s ((M.take i).map (· + a) ++ M.drop i))) ∧ Hid (Ext w wr)) (fun c _ => m - (intOf c).toNat)
        case atStart => exact ⟨0, Nat.zero_le _, rfl, hid (fun p h => absurd h (Nat.not_lt_zero _)), hid (by simpa using HO.out), HX⟩
        case round =>
          obtain ⟨i, hi, rfl, HP, HO2, HX5⟩ := hrel
          by_cases hlt : i < m
          · have hiI : (i : Int) < (m : Int) := by omega
            have hil : i < M.length := by rw [HML.out]; exact hlt
            have hxx := HMX.out M[i] (List.getElem_mem hil)
            have HDJ := hid (show M.getD i 0 = M[i] by rw [List.getD_eq_getElem?_getD, List.getElem?_eq_getElem hil]; rfl)
            have hcell : (u64s ((M.take i).map (· + a) ++ M.drop i))[i]? = some (.int .u64 ((M[i] : Nat) : Int)) := by
              unfold u64s
              rw [List.getElem?_map, List.getElem?_append_right (by simp; omega)]
              simp [Nat.min_eq_left (Nat.le_of_lt hil), List.getElem?_eq_getElem hil]
            have HSET := hid (fun z : Nat => show (u64s ((M.take i).map (· + a) ++ M.drop i)).set i (.int .u64 (z : Int)) = u64s ((M.take i).map (· + a) ++ z :: M.drop (i + 1)) by
              rw [u64s_set, List.set_append_right _ _ (by simp; omega), List.length_map, List.length_take, Nat.min_eq_left (Nat.le_of_lt hil), Nat.sub_self, List.drop_eq_getElem_cons hil]; rfl)
            have HTK := hid (show (M.take (i + 1)).map (· + a) ++ M.drop (i + 1) = (M.take i).map (· + a) ++ (M[i] + a) :: M.drop (i + 1) by rw [List.take_succ_eq_append_getElem hil, List.map_append, List.append_assoc]; rfl)
            have HOV := hid (fun h => Pat.add_part (b := a) hil h)
            obtain ⟨g3, c3, hv3, _, hg3, cur, hb3⟩ := own_base HO2.out (by omega)
            cases hv3
            have d0 := HO2.out.cellAt i (by omega)
            have f0 := HO2.out.frozenAt i
            rw [hcell] at d0
            generalize M[i] = y at *
            have hyI : (y : Int) ≤ 18446744073709551615 := by omega
            by_cases hov : y + a < 18446744073709551616
            · have g1 : (y : Int) ≤ 18446744073709551615 - (a : Int) := by omega
              have HOVL := hid hov
              obtain ⟨z, hz⟩ : ∃ z, z = y + a := ⟨_, rfl⟩
              have HZ := hid hz
              have hsum : (y : Int) + (a : Int) = (z : Int) := by omega
              have hzI : (z : Int) ≤ 18446744073709551615 := by omega
              clear hcell hxx hil hz hov hb3 hg3
              go_wp2
              go_roundw
              case rel => exact ⟨i + 1, by omega, by go_num, hid (fun p hp => by
                  rcases Nat.lt_or_ge p i with h | h
                  · exact HP.out p h
                  · obtain rfl : p = i := by omega
                    rw [HDJ.out]; exact HOVL.out), hid (by rw [HTK.out]; have := own_set HO2.out rfl i (.int .u64 (z : Int)); rw [HSET.out] at this; rw [← HZ.out]; exact this), hid (HX5.out.put (p := ⟨g3, i, none⟩) (HO2.out.lt g3 rfl).1 _)⟩
              case measure => simp [intOf] <;> omega
            · have g1 : 18446744073709551615 - (a : Int) < (y : Int) := by omega
              have HAD := hid (HOV.out hov)
              clear hcell hxx hil hov hb3 hg3
              go_wp2
              go_returns
              rw [HR.out, HAD.out]
              exact ⟨none, 0, rfl, fun h => by simp [u64s] at h, HX5.out⟩
          · obtain rfl : i = m := by omega
            have HAD := hid (Pat.add_all (b := a) (M := M) (fun p hp => HP.out p (by rw [HML.out] at hp; exact hp)))
            rw [List.take_of_length_le (by rw [HML.out]; exact Nat.le_refl _), List.drop_eq_nil_of_le (by rw [HML.out]; exact Nat.le_refl _), List.append_nil] at HO2
            go_wp2
            go_returns
            rw [HR.out, HAD.out]
            obtain ⟨_, _, e, hrd, _⟩ := Rd.owned HO2.out
            cases e
            exact ⟨V, cv, by simp only [List.length_map, HML.out]; rfl, hrd, HX5.out⟩
      · have h2 : Pat.fr L m = (1, 0, []) := by rw [HF.out, Pat.fr3_more (by rw [HON2.out]) (by rw [HON2.out]; exact hx0)]
        have HR := hid (show Pat.rdP L (m : Int) = ([], 1) by rw [Pat.rdP_err HM.out (by rw [h2]; decide), h2])
        have hz : (0 : Int) < (XX.size : Int) := by rw [hXXs]; have := List.length_pos_iff.2 hx0; omega
        clear hXX hXXs hx0 h2 hxl hlt HON HON2 HXL hj
        go_wp2
        go_returns
        rw [HR.out]
        exact ⟨none, 0, rfl, fun h => by simp [u64s] at h, HX.out⟩
theorem patchOf_any (s : ByteArray) (many : Int) (w : World) (hs : s.size ≤ 281474976710656) :
    Calls Tryz.prog 57 #[.string s, .int .i64 many] w (NumsOut (Pat.rdP s.data.toList many).1 (Pat.rdP s.data.toList many).2 w) := by
  by_cases hneg : many < 0
  · rw [Pat.rdP_neg hneg]
    go_enter Tryz.func57, Tryz.ntmps57
    go_wp2
    go_returns
    exact ⟨none, 0, rfl, fun h => by simp [u64s] at h, ext_refl _⟩
  by_cases hmany : 64 < many
  · rw [Pat.rdP_many hmany]
    go_enter Tryz.func57, Tryz.ntmps57
    go_wp2
    go_returns
    exact ⟨none, 0, rfl, fun h => by simp [u64s] at h, ext_refl _⟩
  obtain ⟨m, rfl⟩ : ∃ m : Nat, many = (m : Int) := ⟨many.toNat, by omega⟩
  have hm : m ≤ 64 := by omega
  obtain ⟨L, hL⟩ : ∃ L, s.data.toList = L := ⟨_, rfl⟩
  rw [hL]
  obtain ⟨⟨a, k, e0⟩, hrd⟩ : ∃ p, Vary.rd L = p := ⟨_, rfl⟩
  have hk : k ≤ L.length := by have := (Vary.rd_bd L).1; rw [hrd] at this; exact this
  have ha : a < 18446744073709551616 := by have := (Vary.rd_bd L).2.1; rw [hrd] at this; exact this
  by_cases he : e0 = 0
  · match hcd : L.drop k with
    | [] => exact patchOf_short s L hL m w hs hm a k e0 hrd hk ha he (by rw [hcd]; decide)
    | [_] => exact patchOf_short s L hL m w hs hm a k e0 hrd hk ha he (by rw [hcd]; simp)
    | c :: d :: u =>
      by_cases h64 : 64 < c.toNat
      · exact patchOf_wide s L hL m w hs hm a k e0 hrd hk ha he c d u hcd h64
      by_cases h5 : u.length < Bits.size m c.toNat
      · exact patchOf_short2 s L hL m w hs hm a k e0 hrd hk ha he c d u hcd h64 h5
      by_cases h6 : Bits.chk (u.take (Bits.size m c.toNat)) m c.toNat = 0
      · exact patchOf_loop s L hL m w hs hm a k e0 hrd hk ha he c d u hcd h64 h5 h6
      · exact patchOf_bad s L hL m w hs hm a k e0 hrd hk ha he c d u hcd h64 h5 h6
  · exact patchOf_vary s L hL m w hs hm a k e0 hrd hk ha he
end Go.Proofs.YtdmmodeplfmpnaaGreat
end
section
namespace Hy.Pat
theorem add_bd (b : Nat) (M : List Nat) : (add b M).2 ≤ 8 ∧ (add b M).1.length ≤ M.length := by
  unfold add
  split <;> simp
theorem rdP_both (s : List UInt8) (many : Int) : (rdP s many).2 ≤ 8 ∧ (rdP s many).1.length ≤ 64 := by
  by_cases h1 : many < 0
  · rw [rdP_neg h1]; simp
  by_cases h2 : 64 < many
  · rw [rdP_many h2]; simp
  obtain ⟨m, rfl⟩ : ∃ m : Nat, many = (m : Int) := ⟨many.toNat, by omega⟩
  have hb := fr_bd s m
  by_cases h3 : (fr s m).1 = 0
  · rw [rdP_ok (by omega) h3]
    have h4 := add_bd (fr s m).2.1 (fr s m).2.2
    have h5 := (hb.2.2 h3).1
    omega
  · rw [rdP_err (by omega) h3]
    have := hb.1
    refine ⟨?_, by simp⟩
    show (fr s m).1 ≤ 8
    omega
theorem rdP_len (s : List UInt8) (many : Int) : (rdP s many).1.length ≤ 64 := (rdP_both s many).2
end Hy.Pat
end
section
namespace Hy.Pat
open Go
theorem onS_tl (w : Nat) : ∀ (Q P : List Nat) (last : Int) (r : List UInt8), P.length + Q.length ≤ 64 → last < (P.length : Int) → (∀ x ∈ Q, x < 18446744073709551616) →
    onS w (cnt w Q) (P ++ inn w Q) last (tl w P.length Q ++ r) = (0, P ++ Q, r)
  | [], P, last, r, _, _, _ => by simp [cnt, inn, tl, onS]
  | x :: Q, P, last, r, hl, hla, hx => by
    have hxx := hx x (by simp)
    have hQ : ∀ y ∈ Q, y < 18446744073709551616 := fun y hy => hx y (by simp [hy])
    rw [List.length_cons] at hl
    have e1 : P ++ x :: Q = (P ++ [x]) ++ Q := by simp
    have e2 : (P ++ [x]).length = P.length + 1 := by simp
    by_cases ho : w < Lib.bitLen x
    · have hc : cnt w (x :: Q) = cnt w Q + 1 := by unfold cnt; rw [List.map_cons, List.sum_cons, if_pos ho]; omega
      have ht : tl w P.length (x :: Q) ++ r = UInt8.ofNat P.length :: (Vary.wr x ++ (tl w (P.length + 1) Q ++ r)) := by simp [tl, ho]
      have hi : inn w (x :: Q) = 0 :: inn w Q := by simp [inn, ho]
      have hP : (UInt8.ofNat P.length).toNat = P.length := by rw [UInt8.toNat_ofNat']; omega
      have hrd := Vary.rd_wr x (tl w (P.length + 1) Q ++ r) hxx
      have hE : onE w (P ++ inn w (x :: Q)) last (tl w P.length (x :: Q) ++ r) = (0, P.length, (P ++ [x]) ++ inn w Q, tl w (P.length + 1) Q ++ r) := by
        rw [ht, onE_ok (n := x) (k := Vary.beh x + 1) (by rw [hP, List.length_append, inn_len, List.length_cons]; omega) (by rw [hP]; omega) (by rw [hP, hi, List.getD_eq_getElem?_getD, List.getElem?_append_right (Nat.le_refl _), Nat.sub_self]; rfl) hrd (by omega), hP, hi,
          List.set_append_right _ _ (Nat.le_refl _), Nat.sub_self, List.set_cons_zero, ← Vary.wr_len, List.drop_left]
        simp
      have ih := onS_tl w Q (P ++ [x]) (P.length : Int) r (by rw [e2]; omega) (by rw [e2]; omega) hQ
      rw [hc, onS_succ, hE, if_neg (by simp)]
      rw [e2] at ih
      rw [ih, e1]
    · have hc : cnt w (x :: Q) = cnt w Q := by unfold cnt; rw [List.map_cons, List.sum_cons, if_neg ho]; omega
      have ht : tl w P.length (x :: Q) = tl w (P.length + 1) Q := by simp [tl, ho]
      have hi : inn w (x :: Q) = x :: inn w Q := by simp [inn, ho]
      have ih := onS_tl w Q (P ++ [x]) last r (by rw [e2]; omega) (by rw [e2]; omega) hQ
      rw [e2] at ih
      rw [hc, ht, hi, show P ++ x :: inn w Q = (P ++ [x]) ++ inn w Q by simp, ih, e1]
theorem add_mor (l : List Nat) (hl : ∀ x ∈ l, x < 18446744073709551616) : add (bas l) (mor l) = (l, 0) := by
  have hb := bas_le l
  have e : (mor l).map (· + bas l) = l := by
    unfold mor
    rw [List.map_map]
    conv => rhs; rw [← List.map_id l]
    exact List.map_congr_left fun x hx => by have := hb x hx; show x - bas l + bas l = x; omega
  rw [add_all, e]
  intro i hi
  obtain ⟨y, hy, h⟩ := List.mem_map.1 (List.getElem_mem hi)
  rw [List.getD_eq_getElem?_getD, List.getElem?_eq_getElem hi, Option.getD_some, ← h]
  have := hb y hy
  have := hl y hy
  show y - bas l + bas l < _
  omega
theorem rdP_bys (l : List Nat) (h : l.length ≤ 64) (hl : ∀ x ∈ l, x < 18446744073709551616) : rdP (bys l) (l.length : Int) = (l, 0) := by
  have hml := mor_lt l hl
  have hmn := mor_len l
  have hwb := bst_le (mor l) 64
  have hcl := cnt_le (bst (mor l) 64) (mor l)
  have hB := bys_eq l
  have hin := inn_len (bst (mor l) 64) (mor l)
  have hilt := inn_lt (bst (mor l) 64) (mor l) hwb hml
  have hS := onS_tl (bst (mor l) 64) (mor l) [] (-1) [] (by simp; omega) (by simp) hml
  simp only [List.nil_append, List.length_nil, List.append_nil] at hS
  have hA := add_mor l hl
  have hbb := bas_lt l hl
  generalize bst (mor l) 64 = wd at *
  generalize mor l = M at *
  generalize hI : inn wd M = I at *
  have hpl := Bits.packed_len I wd
  have hchk := Bits.chk_packed (l := I) (w := wd) hwb (by omega) hilt
  have hunp := Bits.unp_packed I wd hilt
  have hwu : (UInt8.ofNat wd).toNat = wd := by rw [UInt8.toNat_ofNat']; omega
  have hcu : (UInt8.ofNat (cnt wd M)).toNat = cnt wd M := by rw [UInt8.toNat_ofNat']; omega
  have hrd := Vary.rd_wr (bas l) ([UInt8.ofNat wd, UInt8.ofNat (cnt wd M)] ++ (Bits.packed I wd ++ tl wd 0 M)) hbb
  rw [← Vary.wr_len] at hrd
  have hB2 : bys l = Vary.wr (bas l) ++ ([UInt8.ofNat wd, UInt8.ofNat (cnt wd M)] ++ (Bits.packed I wd ++ tl wd 0 M)) := by rw [hB]; simp
  rw [hB2]
  have hIn : I.length = l.length := by rw [hin, hmn]
  have hfr : fr (Vary.wr (bas l) ++ ([UInt8.ofNat wd, UInt8.ofNat (cnt wd M)] ++ (Bits.packed I wd ++ tl wd 0 M))) l.length = (0, bas l, M) := by
    rw [fr_ok hrd, List.drop_left]
    show fr1 _ _ (UInt8.ofNat wd :: UInt8.ofNat (cnt wd M) :: (Bits.packed I wd ++ tl wd 0 M)) = _
    have hsz : Bits.size l.length wd = (Bits.packed I wd).length := by rw [hpl, hIn]
    rw [fr1_cons, fr2_ok (by omega) (by rw [hwu, hsz, List.length_append]; omega) (by rw [hwu, hsz, List.take_left, ← hIn]; exact hchk)]
    rw [hwu, hcu, hsz, List.take_left, List.drop_left, ← hIn, hunp, fr3_ok (by rw [hS]) (by rw [hS]), hS]
  rw [rdP_ok h (by rw [hfr]), hfr]
  exact hA
end Hy.Pat
end
