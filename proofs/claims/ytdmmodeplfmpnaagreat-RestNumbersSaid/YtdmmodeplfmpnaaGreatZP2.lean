/- Texts of this claim, put together: walks and plain laws. -/
import Derived.Test.YtdmmodeplfmpnaaGreatZP1
import Derived.Test.YtdmmodeplfmpnaaGreatZB1
section
namespace Hy.Pat
open Go
def wrt (l : List Nat) : List UInt8 × Nat := if 64 < l.length then ([], 2) else (bys l, 0)
theorem tl_at {w : Nat} {M : List Nat} {i x : Nat} (h : M[i]? = some x) (hx : w < Lib.bitLen x) : tl w 0 (M.take (i + 1)) = tl w 0 (M.take i) ++ ([UInt8.ofNat i] ++ Vary.wr x) := by
  have hi : i < M.length := (List.getElem?_eq_some_iff.1 h).1
  rw [take_succ_snoc' h, tl_snoc, if_pos hx, List.length_take, Nat.min_eq_left (by omega), Nat.zero_add]; rfl
theorem tl_no {w : Nat} {M : List Nat} {i x : Nat} (h : M[i]? = some x) (hx : ¬ w < Lib.bitLen x) : tl w 0 (M.take (i + 1)) = tl w 0 (M.take i) := by
  rw [take_succ_snoc' h, tl_snoc, if_neg hx, List.append_nil]
theorem cnt_at {w : Nat} {M : List Nat} {i x : Nat} (h : M[i]? = some x) (hx : w < Lib.bitLen x) : cnt w (M.take (i + 1)) = cnt w (M.take i) + 1 := by
  rw [take_succ_snoc' h, cnt_snoc, if_pos hx]
theorem cnt_no {w : Nat} {M : List Nat} {i x : Nat} (h : M[i]? = some x) (hx : ¬ w < Lib.bitLen x) : cnt w (M.take (i + 1)) = cnt w (M.take i) := by
  rw [take_succ_snoc' h, cnt_snoc, if_neg hx, Nat.add_zero]
theorem inn_at {w : Nat} {M : List Nat} {i x : Nat} (h : M[i]? = some x) (hx : w < Lib.bitLen x) : (inn w (M.take i) ++ M.drop i).set i 0 = inn w (M.take (i + 1)) ++ M.drop (i + 1) := by
  have hi : i < M.length := (List.getElem?_eq_some_iff.1 h).1
  have e : M[i] = x := (List.getElem?_eq_some_iff.1 h).2
  rw [List.set_append_right _ _ (by rw [inn_len, List.length_take]; omega), inn_len, List.length_take, Nat.min_eq_left (by omega), Nat.sub_self, List.drop_eq_getElem_cons hi, List.set_cons_zero, take_succ_snoc' h]
  unfold inn
  rw [List.map_append, List.append_assoc]
  simp [hx]
theorem inn_no {w : Nat} {M : List Nat} {i x : Nat} (h : M[i]? = some x) (hx : ¬ w < Lib.bitLen x) : inn w (M.take i) ++ M.drop i = inn w (M.take (i + 1)) ++ M.drop (i + 1) := by
  have hi : i < M.length := (List.getElem?_eq_some_iff.1 h).1
  have e : M[i] = x := (List.getElem?_eq_some_iff.1 h).2
  rw [List.drop_eq_getElem_cons hi, take_succ_snoc' h]
  unfold inn
  rw [List.map_append, List.append_assoc]
  simp [hx, e]
end Hy.Pat
namespace Go.Proofs.YtdmmodeplfmpnaaGreat
open Go.RowKit Hy
set_option maxRecDepth 100000 in
set_option maxHeartbeats 6400000 in
theorem pWrite_any (l : List Nat) (A : Option Addr) (n cap : Nat) (w : World) (hn : l.length = n) (hr : Rd w A (u64s l)) (hl : ∀ x ∈ l, x < 18446744073709551616) (hnl : n ≤ 9223372036854775806) :
    Calls Tryz.prog 25 #[.slice A n cap] w fun e w' => e = .returned (.tuple #[.string ⟨(Pat.wrt l).1.toArray⟩, .int .i64 (Pat.wrt l).2]) ∧ Ext w w' := by
  unfold Pat.wrt
  have hnI : (n : Int) ≤ 9223372036854775806 := by omega
  by_cases h64 : 64 < n
  · rw [if_pos (by omega)]
    have h6I : 64 < (n : Int) := by omega
    clear hr hl hn hnl h64
    go_enter Tryz.func25, Tryz.ntmps25
    go_wp2
    go_returns
    exact ⟨rfl, ext_refl _⟩
  · rw [if_neg (by omega)]
    have HFD := hid (framed_any l A n cap w hn hr hl (by omega))
    have hbl := Pat.bas_lt l hl
    have hml := Pat.mor_lt l hl
    have hmn := Pat.mor_len l
    have hBY := Pat.bys_eq l
    obtain ⟨b, hb⟩ : ∃ b, b = Pat.bas l := ⟨_, rfl⟩
    obtain ⟨M, hM⟩ : ∃ M, M = Pat.mor l := ⟨_, rfl⟩
    rw [← hb] at HFD hbl
    rw [← hb, ← hM] at hBY
    rw [← hM] at HFD hml hmn
    rw [hn] at hmn
    have hwb := Pat.bst_le M 64
    have HBE := hid (fun (B : Option Addr) (c : Nat) (wx : World) (h : Rd wx B (u64s M)) => best_any M B n c b wx hmn h hml (by omega))
    obtain ⟨wd, hwd⟩ : ∃ wd, wd = Pat.bst M 64 := ⟨_, rfl⟩
    rw [← hwd] at hBY HBE hwb
    have HCL := hid (fun (B : Option Addr) (c : Nat) (wx : World) (h : Rd wx B (u64s M)) (hB : B = none → n = 0) => cloneN_any M B n c wx hmn h hB (by omega))
    have HOUT := hid (fun x (hx : x ∈ M) wx => out_any x wd wx (hml x hx))
    have HWR := hid (fun x (hx : x ∈ M) wx => write_any x wx (hml x hx))
    have HVB := hid (fun wx => write_any b wx hbl)
    have HRW := hid (fun (B : Option Addr) (c : Nat) (wx : World) (h : Rd wx B (u64s (Pat.inn wd M))) => braw_any (Pat.inn wd M) B n c wd wx (by rw [Pat.inn_len, hmn]) h (Pat.inn_lt wd M hwb hml) (by omega) hwb)
    have HMN := hid hmn
    have hwI : (wd : Int) ≤ 64 := by omega
    have hbI : (b : Int) ≤ 18446744073709551615 := by omega
    have hnI2 : (n : Int) ≤ 64 := by omega
    have HBY := hid hBY
    have HML := hid hml
    have HN64 := hid (show n ≤ 64 by omega)
    have HPL := hid (Bits.packed_len (Pat.inn wd M) wd)
    have HXL := hid (fun i => Pat.xt_le wd (M.take i))
    have HTLL := hid (fun i => Pat.tl_len wd (M.take i) 0)
    have HCNL := hid (fun i => Pat.cnt_le wd (M.take i))
    clear hn hr hl hnl hnI h64 hbl hml hmn hb hM hwb hwd hBY
    go_enter Tryz.func25, Tryz.ntmps25
    go_wp2_with fail
    refine Calls.mono HFD.out ?_
    rintro e w1 ⟨B, c, rfl, hrd, hx, _⟩
    have HBN := hid (show B = none → n = 0 from fun e => by
      rcases Nat.eq_zero_or_pos n with h | h
      · exact h
      · obtain ⟨b2, o2, e2, _⟩ := hrd (by rw [u64s_len, HMN.out]; exact h)
        rw [e] at e2; cases e2)
    have HRD1 := hid (hrd.keep ((ext_refl w1).new (.cells #[.int .u64 b, .slice B n c] 67)))
    have HX1 := hid (Ext.new hx (.cells #[.int .u64 b, .slice B n c] 67))
    have HB1 := hid (Blk.new w1 67 #[.int .u64 b, .slice B n c])
    clear hrd hx
    go_wp2_with fail
    refine Calls.mono (HBE.out B c _ HRD1.out) ?_
    rintro e w2 ⟨rfl, hx⟩
    have HRD2 := hid (HRD1.out.keep hx)
    have HX2 := hid (HX1.out.then hx)
    have hB2 := HB1.out.keep hx
    have HB2 := hid hB2
    have hc0 := hB2.cell 0
    have hc1 := hB2.cell 1
    clear hx hB2 HRD1 HX1 HB1
    go_wp2_with fail
    refine Calls.mono (HCL.out B c _ HRD2.out HBN.out) ?_
    rintro e w3 ⟨v, rfl, hown, hx⟩
    have HX3 := hid hx
    have HO3 := hid hown
    have hB3 := HB2.out.keep hx
    have hc0 := hB3.cell 0
    have hc1 := hB3.cell 1
    obtain ⟨V, cv, rfl, _⟩ := Rd.owned HO3.out
    clear hx hB3 hown
    go_wp2
    go_loopw [7, 8, 24] (fun t8 cq ix wr => ∃ i, i ≤ n ∧ ix = .int .i64 i ∧ t8 = .string ⟨(Pat.tl wd 0 (M.take i)).toArray⟩ ∧ cq = .int .i64 (Pat.cnt wd (M.take i) : Nat) ∧ Hid (wr.ownsRow w2.heap.size 39 1 (.slice V n cv) n (u64s (Pat.inn wd (M.take i) ++ M.drop i))) ∧ Hid (Ext w2 wr)) (fun _ _ ix _ => n - (intOf ix).toNat)
    case atStart => exact ⟨0, Nat.zero_le _, rfl, rfl, rfl, HO3, HX3⟩
    case round =>
      obtain ⟨i, hi, rfl, rfl, rfl, HO, HX⟩ := hrel
      have hc0 := (HB2.out.keep HX.out).cell 0
      by_cases hlt : i < n
      · have hltI : (i : Int) < (n : Int) := by omega
        obtain ⟨x, hx⟩ : ∃ x, M[i]? = some x := ⟨_, List.getElem?_eq_getElem (by rw [HMN.out]; exact hlt)⟩
        have hmem := List.mem_of_getElem? hx
        have hxl := HML.out x hmem
        have hxI : (x : Int) ≤ 18446744073709551615 := by omega
        obtain ⟨b1, o1, e1, l1, c1⟩ := (HRD2.out.keep HX.out).num00 (by rw [HMN.out]; omega)
        subst e1
        have d0 := c1 i x hx
        have CO := hid (HOUT.out x hmem)
        obtain ⟨XT, hXT⟩ : ∃ S : ByteArray, S = ⟨(Pat.tl wd 0 (M.take i)).toArray⟩ := ⟨_, rfl⟩
        have htll := HTLL.out i
        have hxtl := HXL.out i
        have hcl := HCNL.out i
        have htk : (M.take i).length ≤ n := by rw [List.length_take]; omega
        have hXs : XT.size ≤ 640 := by rw [hXT, str_size]; have := HN64.out; omega
        have hcI : ((Pat.cnt wd (M.take i) : Nat) : Int) ≤ 64 := by have := HN64.out; omega
        rw [← hXT]
        have HXT := hid hXT
        by_cases ho : wd < Lib.bitLen x
        · rw [decide_eq_true ho] at CO
          have HTL := hid (Pat.tl_at hx ho)
          have HCN := hid (Pat.cnt_at hx ho)
          have HIN := hid (show u64s (Pat.inn wd (M.take (i + 1)) ++ M.drop (i + 1)) = _ from congrArg u64s (Pat.inn_at hx ho).symm)
          rw [← u64s_set] at HIN
          have HV := hid (fun wx => HWR.out x hmem wx)
          have hvl := Vary.wr_len x
          have hv8 := Vary.beh_le8 x
          obtain ⟨g3, c3, hv3, hbg, hg3, cur, hb3⟩ := own_base HO.out (by omega)
          cases hv3
          have f0 := HO.out.frozenAt i
          have d3 := HO.out.cellAt i (by omega)
          have hd3 : (u64s (Pat.inn wd (M.take i) ++ M.drop i))[i]? = some (.int .u64 (x : Int)) := by
            unfold u64s
            rw [List.getElem?_map, List.getElem?_append_right (by rw [Pat.inn_len, List.length_take]; omega), Pat.inn_len, List.length_take, Nat.min_eq_left (by rw [HMN.out]; omega), Nat.sub_self, List.getElem?_drop, Nat.add_zero, hx]; rfl
          rw [hd3] at d3
          obtain ⟨X2b, hX2b⟩ : ∃ S : ByteArray, S = ⟨[UInt8.ofNat i].toArray⟩ := ⟨_, rfl⟩
          obtain ⟨X3b, hX3b⟩ : ∃ S : ByteArray, S = ⟨(Vary.wr x).toArray⟩ := ⟨_, rfl⟩
          rw [← hX3b] at HV
          have hz2 : X2b.size = 1 := by rw [hX2b]; rfl
          have hz3 : X3b.size ≤ 9 := by rw [hX3b, str_size]; omega
          have HX2 := hid hX2b
          have HX3 := hid hX3b
          have HWB := hid (show (#[Value.int .u8 (i : Int)] : Array Value).toList = u8s [UInt8.ofNat i] by simp [u8s]; have := HN64.out; omega)
          have hiu : IntKind.u8.wrap (i : Int) = (i : Int) := by rw [IntKind.wrap_u8]; have := HN64.out; omega
          have hown5 := own_set HO.out rfl i (.int .u64 0)
          clear hx hmem hxl c1 hXT htll hxtl hcl htk hX2b hX3b hvl hv8 hb3 hg3 hbg ho hd3
          generalize Pat.cnt wd (M.take i) = q at *
          go_wp2_with fail
          refine Calls.mono (CO.out _) ?_
          rintro e _ ⟨rfl, rfl⟩
          go_wp2
          refine wp_gen (fun w' => w'.ownsRow w2.heap.size 39 1 (.slice (some ⟨g3, 0, none⟩) n cv) n ((u64s (Pat.inn wd (M.take i) ++ M.drop i)).set i (.int .u64 0)) ∧ Ext w2 w') ⟨hown5, HX.out.put (p := ⟨g3, i, none⟩) (HO.out.lt g3 rfl).1 _⟩ ?_
          rintro w5 ⟨ho5, hx5⟩
          have HO5 := hid ho5
          have HX5 := hid hx5
          clear hown5 ho5 hx5 hc0 d0 f0 d3
          refine wp_region_tree (.one 0 true (.one 1 true (.one 2 true (.one 5 true (.two 3 6 (.two 4 6 (.one 6 false (.one 7 true (.one 8 true (.one 9 true (.nil))))) (.one 4 false (.one 7 true (.one 8 true (.one 9 true (.nil)))))) (.one 3 false (.one 4 false (.one 7 true (.one 8 true (.one 9 true (.nil))))))))))) (by kernel_rfl) (by kernel_rfl) (fun _ _ _ _ _ h => h) (by kernel_rfl) (by rfl) ?_
          simp only [fillT, List.getD_cons_zero, List.getD_cons_succ]
          have Y0 : Ext w5 w5.drew := (ext_refl w5).draw
          generalize w5.drew = y0 at Y0 ⊢
          repeat (refine wpTO_val (by rfl) ?_; intro K hK; go_big_quiet_op; go_big_quiet_on)
          refine wpTO_two ?_ ?_
          · refine wpTO_do (by rfl) ?_
            intro K hK
            go_simp
            have HRB := rd_lit (w := y0) (g := (y0 : World).heap.size) (C := #[.int .u8 (i : Int)]) (e := 5) (fz := (0, 0)) (cs := u8s [UInt8.ofNat i]) rfl HWB.out
            have Y1 := Ext.new Y0 (.cells #[.int .u8 (i : Int)] 5)
            refine hK _ _ Y1 ?_
            clear K hK
            refine wpTO_two ?_ ?_
            · refine wpTO_do (by rfl) ?_
              intro K hK
              have hcv := run_str_rd (P := Tryz.prog) (src := 72) (dst := 9) (e := 5) Tryz.underlying72 Tryz.underlying5 Tryz.underlying9 _ 1 1 [UInt8.ofNat i] rfl HRB (fun h => by cases h)
              rw [← HX2.out] at hcv
              go_simp
              refine hK _ _ Y1 ?_
              clear K hK hcv
              refine wpTO_do (by rfl) ?_
              intro K hK
              go_simp
              refine Calls.mono (HV.out _) ?_
              rintro e y2 ⟨rfl, hx⟩
              have Y2 := Ext.then Y1 hx
              replace HRB := Rd.keep HRB hx
              refine hK _ _ Y2 ?_
              clear K hK hx
              repeat (refine wpTO_val (by rfl) ?_; intro K hK; go_big_quiet_op; go_big_quiet_on)
              refine wpTO_nil ?_
              have XE := hid (HX5.out.then Y2)
              have XO := hid (own_ext HO5.out Y2)
              clear HO5 HX5 hc1
              go_wp2
              go_roundw
              case rel => exact ⟨i + 1, by omega, by go_num, by rw [HTL.out, HXT.out, HX2.out, HX3.out, str_app, str_app], by rw [HCN.out]; rfl, hid (by rw [HIN.out]; exact XO.out), XE⟩
              case measure => simp [intOf]; omega
            · refine wpTO_do (by rfl) ?_
              intro K hK
              go_simp
              refine Calls.mono (HV.out _) ?_
              rintro e y3 ⟨rfl, hx⟩
              have Y3 := Ext.then Y1 hx
              replace HRB := Rd.keep HRB hx
              refine hK _ _ Y3 ?_
              clear K hK hx
              refine wpTO_do (by rfl) ?_
              intro K hK
              have hcv := run_str_rd (P := Tryz.prog) (src := 72) (dst := 9) (e := 5) Tryz.underlying72 Tryz.underlying5 Tryz.underlying9 _ 1 1 [UInt8.ofNat i] rfl HRB (fun h => by cases h)
              rw [← HX2.out] at hcv
              go_simp
              refine hK _ _ Y3 ?_
              clear K hK hcv
              repeat (refine wpTO_val (by rfl) ?_; intro K hK; go_big_quiet_op; go_big_quiet_on)
              refine wpTO_nil ?_
              have XE := hid (HX5.out.then Y3)
              have XO := hid (own_ext HO5.out Y3)
              clear HO5 HX5 hc1
              go_wp2
              go_roundw
              case rel => exact ⟨i + 1, by omega, by go_num, by rw [HTL.out, HXT.out, HX2.out, HX3.out, str_app, str_app], by rw [HCN.out]; rfl, hid (by rw [HIN.out]; exact XO.out), XE⟩
              case measure => simp [intOf]; omega
          · refine wpTO_do (by rfl) ?_
            intro K hK
            go_simp
            refine Calls.mono (HV.out _) ?_
            rintro e y4 ⟨rfl, hx⟩
            have Y4 := Ext.then Y0 hx
            refine hK _ _ Y4 ?_
            clear K hK hx
            refine wpTO_do (by rfl) ?_
            intro K hK
            go_simp
            have HRB := rd_lit (w := y4) (g := (y4 : World).heap.size) (C := #[.int .u8 (i : Int)]) (e := 5) (fz := (0, 0)) (cs := u8s [UInt8.ofNat i]) rfl HWB.out
            have Y5 := Ext.new Y4 (.cells #[.int .u8 (i : Int)] 5)
            refine hK _ _ Y5 ?_
            clear K hK
            refine wpTO_do (by rfl) ?_
            intro K hK
            have hcv := run_str_rd (P := Tryz.prog) (src := 72) (dst := 9) (e := 5) Tryz.underlying72 Tryz.underlying5 Tryz.underlying9 _ 1 1 [UInt8.ofNat i] rfl HRB (fun h => by cases h)
            rw [← HX2.out] at hcv
            go_simp
            refine hK _ _ Y5 ?_
            clear K hK hcv
            repeat (refine wpTO_val (by rfl) ?_; intro K hK; go_big_quiet_op; go_big_quiet_on)
            refine wpTO_nil ?_
            have XE := hid (HX5.out.then Y5)
            have XO := hid (own_ext HO5.out Y5)
            clear HO5 HX5 hc1
            go_wp2
            go_roundw
            case rel => exact ⟨i + 1, by omega, by go_num, by rw [HTL.out, HXT.out, HX2.out, HX3.out, str_app, str_app], by rw [HCN.out]; rfl, hid (by rw [HIN.out]; exact XO.out), XE⟩
            case measure => simp [intOf]; omega
        · rw [decide_eq_false ho] at CO
          have HTL := hid (Pat.tl_no hx ho)
          have HCN := hid (Pat.cnt_no hx ho)
          have HIN := hid (congrArg u64s (Pat.inn_no hx ho))
          clear hx hmem hxl c1 hXT htll hxtl hcl htk ho
          go_wp2_with fail
          refine Calls.mono (CO.out _) ?_
          rintro e _ ⟨rfl, rfl⟩
          go_wp2
          go_roundw
          case rel => exact ⟨i + 1, by omega, by go_num, by rw [HTL.out, HXT.out], by rw [HCN.out], hid (by rw [← HIN.out]; exact HO.out), HX⟩
          case measure => simp [intOf]; omega
      · obtain rfl : i = n := by omega
        have htk : M.take i = M := List.take_of_length_le (by rw [HMN.out]; exact Nat.le_refl _)
        have hdr : M.drop i = [] := List.drop_eq_nil_of_le (by rw [HMN.out]; exact Nat.le_refl _)
        rw [htk, hdr, List.append_nil] at HO
        have htll := HTLL.out i
        have hxtl := HXL.out i
        have hcl := HCNL.out i
        rw [htk] at htll hxtl hcl ⊢
        rw [HMN.out] at hxtl hcl
        have HRAW := hid (fun wx (hx : Ext wr wx) => HRW.out V cv wx (by obtain ⟨_, _, e, hrd, _⟩ := Rd.owned HO.out; cases e; exact hrd.keep hx))
        obtain ⟨q, hq⟩ : ∃ q, q = Pat.cnt wd M := ⟨_, rfl⟩
        rw [← hq] at hcl ⊢
        have hqI : (q : Int) ≤ 64 := by have := HN64.out; omega
        obtain ⟨X1b, hX1b⟩ : ∃ S : ByteArray, S = ⟨(Vary.wr b).toArray⟩ := ⟨_, rfl⟩
        obtain ⟨X2b, hX2b⟩ : ∃ S : ByteArray, S = ⟨[UInt8.ofNat wd, UInt8.ofNat q].toArray⟩ := ⟨_, rfl⟩
        obtain ⟨X3b, hX3b⟩ : ∃ S : ByteArray, S = ⟨(Bits.packed (Pat.inn wd M) wd).toArray⟩ := ⟨_, rfl⟩
        obtain ⟨X4b, hX4b⟩ : ∃ S : ByteArray, S = ⟨(Pat.tl wd 0 M).toArray⟩ := ⟨_, rfl⟩
        have hz1 : X1b.size ≤ 9 := by rw [hX1b, str_size, Vary.wr_len]; have := Vary.beh_le8 b; omega
        have hz2 : X2b.size = 2 := by rw [hX2b]; rfl
        have hz3 : X3b.size ≤ 1000 := by
          rw [hX3b, str_size, HPL.out, Pat.inn_len, HMN.out]
          have h1 := HN64.out
          have h2 : i * wd ≤ 64 * 64 := Nat.mul_le_mul h1 (by omega)
          unfold Bits.size; omega
        have hz4 : X4b.size ≤ 640 := by rw [hX4b, str_size]; have := HN64.out; omega
        have HRES := hid (show (⟨(Pat.bys l).toArray⟩ : ByteArray) = X1b ++ X2b ++ X3b ++ X4b by rw [HBY.out, hX1b, hX2b, hX3b, hX4b, str_app, str_app, str_app, hq])
        rw [← hX1b] at HVB
        rw [← hX3b] at HRAW
        rw [← hX4b]
        have HEB := hid hX2b
        have HWB := hid (show (#[Value.int .u8 (wd : Int), Value.int .u8 (q : Int)] : Array Value).toList = u8s [UInt8.ofNat wd, UInt8.ofNat q] by
          have h1 : wd % 256 = wd := by omega
          have h2 : q % 256 = q := by omega
          simp [u8s, h1, h2])
        have hwu : IntKind.u8.wrap (wd : Int) = (wd : Int) := by rw [IntKind.wrap_u8]; omega
        have hqu : IntKind.u8.wrap (q : Int) = (q : Int) := by rw [IntKind.wrap_u8]; omega
        have d0r := cell_regrown hc0
        clear htk hdr htll hxtl hcl hq hX1b hX2b hX3b hX4b
        go_wp2
        refine wp_region_tree (.one 0 true (.one 1 true (.one 3 true (.one 4 true (.one 5 true (.one 6 true (.one 10 true (.one 11 true (.one 14 true (.two 2 7 (.two 7 12 (.two 8 12 (.one 9 true (.one 12 false (.one 13 true (.one 15 true (.one 16 true (.one 17 true (.nil))))))) (.one 8 false (.one 9 true (.one 13 true (.one 15 true (.one 16 true (.one 17 true (.nil)))))))) (.one 7 false (.one 8 false (.one 9 true (.one 13 true (.one 15 true (.one 16 true (.one 17 true (.nil))))))))) (.two 2 8 (.two 8 12 (.one 9 true (.one 12 false (.one 13 true (.one 15 true (.one 16 true (.one 17 true (.nil))))))) (.one 8 false (.one 9 true (.one 13 true (.one 15 true (.one 16 true (.one 17 true (.nil)))))))) (.one 2 false (.one 9 true (.one 12 false (.one 13 true (.one 15 true (.one 16 true (.one 17 true (.nil))))))))))))))))))) (by kernel_rfl) (by kernel_rfl) (fun _ _ _ _ _ h => h) (by kernel_rfl) (by rfl) ?_
        simp only [fillT, List.getD_cons_zero, List.getD_cons_succ]
        have Y0 : Ext wr wr.drew := (ext_refl wr).draw
        generalize wr.drew = y0 at Y0 ⊢
        repeat (refine wpTO_val (by rfl) ?_; intro K hK; go_big_quiet_op; go_big_quiet_on)
        refine wpTO_two ?_ ?_
        · refine wpTO_do (by rfl) ?_
          intro K hK
          go_simp
          refine Calls.mono (HVB.out _) ?_
          rintro e y1 ⟨rfl, hx⟩
          have Y1 := Ext.then Y0 hx
          refine hK _ _ Y1 ?_
          clear K hK hx
          refine wpTO_two ?_ ?_
          · refine wpTO_do (by rfl) ?_
            intro K hK
            go_simp
            have HRB := rd_lit (w := y1) (g := (y1 : World).heap.size) (C := #[.int .u8 (wd : Int), .int .u8 (q : Int)]) (e := 5) (fz := (0, 0)) (cs := u8s [UInt8.ofNat wd, UInt8.ofNat q]) rfl HWB.out
            have Y2 := Ext.new Y1 (.cells #[.int .u8 (wd : Int), .int .u8 (q : Int)] 5)
            refine hK _ _ Y2 ?_
            clear K hK
            refine wpTO_two ?_ ?_
            · refine wpTO_do (by rfl) ?_
              intro K hK
              have hcv := run_str_rd (P := Tryz.prog) (src := 72) (dst := 9) (e := 5) Tryz.underlying72 Tryz.underlying5 Tryz.underlying9 _ 2 2 [UInt8.ofNat wd, UInt8.ofNat q] rfl HRB (fun h => by cases h)
              rw [← HEB.out] at hcv
              go_simp
              refine hK _ _ Y2 ?_
              clear K hK hcv
              repeat (refine wpTO_val (by rfl) ?_; intro K hK; go_big_quiet_op; go_big_quiet_on)
              refine wpTO_do (by rfl) ?_
              intro K hK
              go_simp
              refine Calls.mono (HRAW.out _ Y2) ?_
              rintro e y3 ⟨rfl, hx⟩
              have Y3 := Ext.then Y2 hx
              replace HRB := Rd.keep HRB hx
              refine hK _ _ Y3 ?_
              clear K hK hx
              repeat (refine wpTO_val (by rfl) ?_; intro K hK; go_big_quiet_op; go_big_quiet_on)
              refine wpTO_nil ?_
              have XE := hid (HX2.out.then (HX.out.then Y3))
              go_wp2
              go_returns
              exact ⟨by rw [HRES.out]; rfl, XE.out⟩
            · refine wpTO_do (by rfl) ?_
              intro K hK
              go_simp
              refine Calls.mono (HRAW.out _ Y2) ?_
              rintro e y4 ⟨rfl, hx⟩
              have Y4 := Ext.then Y2 hx
              replace HRB := Rd.keep HRB hx
              refine hK _ _ Y4 ?_
              clear K hK hx
              refine wpTO_do (by rfl) ?_
              intro K hK
              have hcv := run_str_rd (P := Tryz.prog) (src := 72) (dst := 9) (e := 5) Tryz.underlying72 Tryz.underlying5 Tryz.underlying9 _ 2 2 [UInt8.ofNat wd, UInt8.ofNat q] rfl HRB (fun h => by cases h)
              rw [← HEB.out] at hcv
              go_simp
              refine hK _ _ Y4 ?_
              clear K hK hcv
              repeat (refine wpTO_val (by rfl) ?_; intro K hK; go_big_quiet_op; go_big_quiet_on)
              refine wpTO_nil ?_
              have XE := hid (HX2.out.then (HX.out.then Y4))
              go_wp2
              go_returns
              exact ⟨by rw [HRES.out]; rfl, XE.out⟩
          · refine wpTO_do (by rfl) ?_
            intro K hK
            go_simp
            refine Calls.mono (HRAW.out _ Y1) ?_
            rintro e y5 ⟨rfl, hx⟩
            have Y5 := Ext.then Y1 hx
            refine hK _ _ Y5 ?_
            clear K hK hx
            refine wpTO_do (by rfl) ?_
            intro K hK
            go_simp
            have HRB := rd_lit (w := y5) (g := (y5 : World).heap.size) (C := #[.int .u8 (wd : Int), .int .u8 (q : Int)]) (e := 5) (fz := (0, 0)) (cs := u8s [UInt8.ofNat wd, UInt8.ofNat q]) rfl HWB.out
            have Y6 := Ext.new Y5 (.cells #[.int .u8 (wd : Int), .int .u8 (q : Int)] 5)
            refine hK _ _ Y6 ?_
            clear K hK
            refine wpTO_do (by rfl) ?_
            intro K hK
            have hcv := run_str_rd (P := Tryz.prog) (src := 72) (dst := 9) (e := 5) Tryz.underlying72 Tryz.underlying5 Tryz.underlying9 _ 2 2 [UInt8.ofNat wd, UInt8.ofNat q] rfl HRB (fun h => by cases h)
            rw [← HEB.out] at hcv
            go_simp
            refine hK _ _ Y6 ?_
            clear K hK hcv
            repeat (refine wpTO_val (by rfl) ?_; intro K hK; go_big_quiet_op; go_big_quiet_on)
            refine wpTO_nil ?_
            have XE := hid (HX2.out.then (HX.out.then Y6))
            go_wp2
            go_returns
            exact ⟨by rw [HRES.out]; rfl, XE.out⟩
        · refine wpTO_do (by rfl) ?_
          intro K hK
          go_simp
          have HRB := rd_lit (w := y0) (g := (y0 : World).heap.size) (C := #[.int .u8 (wd : Int), .int .u8 (q : Int)]) (e := 5) (fz := (0, 0)) (cs := u8s [UInt8.ofNat wd, UInt8.ofNat q]) rfl HWB.out
          have Y7 := Ext.new Y0 (.cells #[.int .u8 (wd : Int), .int .u8 (q : Int)] 5)
          refine hK _ _ Y7 ?_
          clear K hK
          refine wpTO_two ?_ ?_
          · refine wpTO_do (by rfl) ?_
            intro K hK
            go_simp
            refine Calls.mono (HVB.out _) ?_
            rintro e y8 ⟨rfl, hx⟩
            have Y8 := Ext.then Y7 hx
            replace HRB := Rd.keep HRB hx
            refine hK _ _ Y8 ?_
            clear K hK hx
            refine wpTO_two ?_ ?_
            · refine wpTO_do (by rfl) ?_
              intro K hK
              have hcv := run_str_rd (P := Tryz.prog) (src := 72) (dst := 9) (e := 5) Tryz.underlying72 Tryz.underlying5 Tryz.underlying9 _ 2 2 [UInt8.ofNat wd, UInt8.ofNat q] rfl HRB (fun h => by cases h)
              rw [← HEB.out] at hcv
              go_simp
              refine hK _ _ Y8 ?_
              clear K hK hcv
              repeat (refine wpTO_val (by rfl) ?_; intro K hK; go_big_quiet_op; go_big_quiet_on)
              refine wpTO_do (by rfl) ?_
              intro K hK
              go_simp
              refine Calls.mono (HRAW.out _ Y8) ?_
              rintro e y9 ⟨rfl, hx⟩
              have Y9 := Ext.then Y8 hx
              replace HRB := Rd.keep HRB hx
              refine hK _ _ Y9 ?_
              clear K hK hx
              repeat (refine wpTO_val (by rfl) ?_; intro K hK; go_big_quiet_op; go_big_quiet_on)
              refine wpTO_nil ?_
              have XE := hid (HX2.out.then (HX.out.then Y9))
              go_wp2
              go_returns
              exact ⟨by rw [HRES.out]; rfl, XE.out⟩
            · refine wpTO_do (by rfl) ?_
              intro K hK
              go_simp
              refine Calls.mono (HRAW.out _ Y8) ?_
              rintro e y10 ⟨rfl, hx⟩
              have Y10 := Ext.then Y8 hx
              replace HRB := Rd.keep HRB hx
              refine hK _ _ Y10 ?_
              clear K hK hx
              refine wpTO_do (by rfl) ?_
              intro K hK
              have hcv := run_str_rd (P := Tryz.prog) (src := 72) (dst := 9) (e := 5) Tryz.underlying72 Tryz.underlying5 Tryz.underlying9 _ 2 2 [UInt8.ofNat wd, UInt8.ofNat q] rfl HRB (fun h => by cases h)
              rw [← HEB.out] at hcv
              go_simp
              refine hK _ _ Y10 ?_
              clear K hK hcv
              repeat (refine wpTO_val (by rfl) ?_; intro K hK; go_big_quiet_op; go_big_quiet_on)
              refine wpTO_nil ?_
              have XE := hid (HX2.out.then (HX.out.then Y10))
              go_wp2
              go_returns
              exact ⟨by rw [HRES.out]; rfl, XE.out⟩
          · refine wpTO_do (by rfl) ?_
            intro K hK
            have hcv := run_str_rd (P := Tryz.prog) (src := 72) (dst := 9) (e := 5) Tryz.underlying72 Tryz.underlying5 Tryz.underlying9 _ 2 2 [UInt8.ofNat wd, UInt8.ofNat q] rfl HRB (fun h => by cases h)
            rw [← HEB.out] at hcv
            go_simp
            refine hK _ _ Y7 ?_
            clear K hK hcv
            refine wpTO_do (by rfl) ?_
            intro K hK
            go_simp
            refine Calls.mono (HVB.out _) ?_
            rintro e y11 ⟨rfl, hx⟩
            have Y11 := Ext.then Y7 hx
            replace HRB := Rd.keep HRB hx
            refine hK _ _ Y11 ?_
            clear K hK hx
            repeat (refine wpTO_val (by rfl) ?_; intro K hK; go_big_quiet_op; go_big_quiet_on)
            refine wpTO_do (by rfl) ?_
            intro K hK
            go_simp
            refine Calls.mono (HRAW.out _ Y11) ?_
            rintro e y12 ⟨rfl, hx⟩
            have Y12 := Ext.then Y11 hx
            replace HRB := Rd.keep HRB hx
            refine hK _ _ Y12 ?_
            clear K hK hx
            repeat (refine wpTO_val (by rfl) ?_; intro K hK; go_big_quiet_op; go_big_quiet_on)
            refine wpTO_nil ?_
            have XE := hid (HX2.out.then (HX.out.then Y12))
            go_wp2
            go_returns
            exact ⟨by rw [HRES.out]; rfl, XE.out⟩
end Go.Proofs.YtdmmodeplfmpnaaGreat
end
