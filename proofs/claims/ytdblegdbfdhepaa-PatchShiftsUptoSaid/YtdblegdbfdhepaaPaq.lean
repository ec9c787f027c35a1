/- Patch: the document's PatchBytes: walk (printed by gen_pap.py). -/
import Derived.Test.YtdblegdbfdhepaaPao
import Derived.Test.YtdblegdbfdhepaaBrf
import Derived.Test.YtdblegdbfdhepaaPaf
import Derived.Test.YtdblegdbfdhepaaOnb
namespace Hy.Pat
theorem cst_lt (M : List Nat) (h : M.length ≤ 64) : ∀ w, w ≤ 64 → cst M w ≤ 2000 := fun w hw => by
  have h1 := xt_le w M
  have h2 : M.length * w ≤ 64 * 64 := Nat.mul_le_mul h hw
  unfold cst Bits.size
  omega
end Hy.Pat
namespace Go.Proofs.Ytdblegdbfdhepaa
open Go.RowKit Hy
set_option maxRecDepth 100000 in
set_option maxHeartbeats 3200000 in
theorem patchBytes_any (l : List Nat) (A : Option Addr) (n cap : Nat) (w : World) (hn : l.length = n) (hr : Rd w A (u64s l)) (hl : ∀ x ∈ l, x < 18446744073709551616) (hnl : n ≤ 64) :
    Calls Try.prog 32 #[.slice A n cap] w fun e w' => e = .returned (.string ⟨(Pat.bys l).toArray⟩) ∧ Ext w w' := by
  have HCO := hid (fun wd (h : wd ≤ 64) wx (hx : Ext w wx) => costOf_any l A n cap wd wx hn (hr.keep hx) hl hnl h)
  have CB := hid (fun wx (hx : Ext w wx) => baseOf_any l A n cap wx hn (hr.keep hx) hl hnl)
  have hbl := Pat.bas_lt l hl
  have hml := Pat.mor_lt l hl
  have hmn := Pat.mor_len l
  have hBY := Pat.bys_eq l
  have HLE := hid (Pat.bas_le l)
  have HMOR := hid (show Pat.mor l = l.map (· - Pat.bas l) from rfl)
  have HCL := hid (Pat.cst_lt (Pat.mor l) (by rw [hmn, hn]; exact hnl))
  have HOF := hid (fun v (hk : v ≤ 64) h1 h2 => Pat.bst_of (M := Pat.mor l) (k := 64) (w := v) hk h1 h2)
  obtain ⟨b, hb⟩ : ∃ b, b = Pat.bas l := ⟨_, rfl⟩
  obtain ⟨M, hM⟩ : ∃ M, M = Pat.mor l := ⟨_, rfl⟩
  obtain ⟨wd, hwd⟩ : ∃ wd, wd = Pat.bst M 64 := ⟨_, rfl⟩
  have hwb := Pat.bst_le M 64
  rw [← hb] at hbl CB HLE HMOR
  rw [← hb, ← hM, ← hwd] at hBY
  rw [← hM] at hml hmn HMOR HCL HOF HCO
  rw [← hwd] at hwb
  simp only [← hwd] at HOF
  rw [hn] at hmn
  have HFI := hid (fun x (hx : x ∈ M) wx => fits_any x wd wx (hml x hx) (by omega))
  have HWR := hid (fun x (hx : x ∈ M) wx => varyBytes_any x wx (hml x hx))
  have HVB := hid (fun wx => varyBytes_any b wx hbl)
  have HPK := hid (fun (B : Option Addr) (c : Nat) (wx : World) (h : Rd wx B (u64s (Pat.inn wd M))) => packedOf_any (Pat.inn wd M) B n c wd wx (by rw [Pat.inn_len, hmn]) h (Pat.inn_lt wd M hwb hml) hnl hwb)
  have HMN := hid hmn
  have hwI : (wd : Int) ≤ 64 := by omega
  have hbI : (b : Int) ≤ 18446744073709551615 := by omega
  have hnI : (n : Int) ≤ 64 := by omega
  have HBY := hid hBY
  have HML := hid hml
  have HR := hid hr
  have HN := hid hn
  have HN64 := hid hnl
  have HPL := hid (Bits.packed_len (Pat.inn wd M) wd)
  have HXL := hid (fun i => Pat.xt_le wd (M.take i))
  have HTLL := hid (fun i => Pat.tl_len wd (M.take i) 0)
  have HCNL := hid (fun i => Pat.cnt_le wd (M.take i))
  have HGM := hid (show ∀ i x, l[i]? = some x → M[i]? = some (x - b) from fun i x h => by rw [HMOR.out, List.getElem?_map, h]; rfl)
  clear hn hr hl hnl hbl hml hmn hb hM hwd hBY
  go_enter Try.func32, Try.ntmps32
  go_wp2
  go_loopw [3, 4] (fun a c wr => ∃ (v k : Nat), k ≤ 64 ∧ c = .int .i64 ((k : Int) - 1) ∧ a = .int .i64 v ∧ k ≤ v ∧ v ≤ 64 ∧ Hid (∀ u, k ≤ u → u ≤ 64 → Pat.cst M v ≤ Pat.cst M u) ∧ Hid (∀ u, k ≤ u → u < v → Pat.cst M v < Pat.cst M u) ∧ Hid (Ext w wr)) (fun _ c _ => ((intOf c) + 1).toNat)
  case atStart => exact ⟨64, 64, Nat.le_refl _, rfl, rfl, Nat.le_refl _, Nat.le_refl _, hid (fun u h1 h2 => by rw [show u = 64 by omega]; exact Nat.le_refl _), hid (fun u h1 h2 => by omega), ext_refl _⟩
  case round =>
    obtain ⟨v, k, hk, rfl, rfl, hkv, hv, H1, H2, HX⟩ := hrel
    by_cases hk0 : 1 ≤ k
    · obtain ⟨j, rfl⟩ : ∃ j, k = j + 1 := ⟨k - 1, by omega⟩
      have hj : ((j + 1 : Nat) : Int) - 1 = (j : Int) := by omega
      rw [hj]
      have hjI : (j : Int) ≤ 63 := by omega
      have hvI : (v : Int) ≤ 64 := by omega
      have C1 := hid (HCO.out j (by omega))
      have C2 := hid (HCO.out v hv)
      have l1 := HCL.out j (by omega)
      have l2 := HCL.out v hv
      have HKV := hid hkv
      have HV := hid hv
      obtain ⟨c1, hc1⟩ : ∃ c, c = Pat.cst M j := ⟨_, rfl⟩
      obtain ⟨c2, hc2⟩ : ∃ c, c = Pat.cst M v := ⟨_, rfl⟩
      rw [← hc1] at C1 l1
      rw [← hc2] at C2 l2
      have l1I : (c1 : Int) ≤ 100000 := by omega
      have l2I : (c2 : Int) ≤ 100000 := by omega
      by_cases hle : c1 ≤ c2
      · have H1n := hid (show ∀ u, j ≤ u → u ≤ 64 → Pat.cst M j ≤ Pat.cst M u from fun u h1 h2 => by
          rcases Nat.eq_or_lt_of_le h1 with e | h
          · rw [← e]; exact Nat.le_refl _
          · have := H1.out u h h2; omega)
        have H2n := hid (show ∀ u, j ≤ u → u < j → Pat.cst M j < Pat.cst M u from fun u h1 h2 => by omega)
        have hleI : (c1 : Int) ≤ (c2 : Int) := by omega
        clear hk0 hc1 hc2 l1 l2 hkv hv hk hj hle
        go_wp2_with fail
        refine Calls.mono (C1.out _ HX.out) ?_
        rintro e w2 ⟨rfl, hx⟩
        have HX2 := hid (HX.out.then hx)
        clear hx C1
        go_wp2_with fail
        refine Calls.mono (C2.out _ HX2.out) ?_
        rintro e w3 ⟨rfl, hx⟩
        have HX3 := hid (HX2.out.then hx)
        clear hx C2
        go_wp2
        go_roundw
        case rel => exact ⟨j, j, by omega, rfl, rfl, Nat.le_refl _, by omega, H1n, H2n, HX3⟩
        case measure => simp [intOf] <;> omega
      · have H1n := hid (show ∀ u, j ≤ u → u ≤ 64 → Pat.cst M v ≤ Pat.cst M u from fun u h1 h2 => by
          rcases Nat.eq_or_lt_of_le h1 with e | h
          · rw [← e]; omega
          · exact H1.out u h h2)
        have H2n := hid (show ∀ u, j ≤ u → u < v → Pat.cst M v < Pat.cst M u from fun u h1 h2 => by
          rcases Nat.eq_or_lt_of_le h1 with e | h
          · rw [← e]; omega
          · exact H2.out u h h2)
        have hleI : ¬ (c1 : Int) ≤ (c2 : Int) := by omega
        clear hk0 hc1 hc2 l1 l2 hkv hv hk hj hle
        go_wp2_with fail
        refine Calls.mono (C1.out _ HX.out) ?_
        rintro e w2 ⟨rfl, hx⟩
        have HX2 := hid (HX.out.then hx)
        clear hx C1
        go_wp2_with fail
        refine Calls.mono (C2.out _ HX2.out) ?_
        rintro e w3 ⟨rfl, hx⟩
        have HX3 := hid (HX2.out.then hx)
        clear hx C2
        go_wp2
        go_roundw
        case rel => exact ⟨v, j, by omega, rfl, rfl, by have := HKV.out; omega, HV.out, H1n, H2n, HX3⟩
        case measure => simp [intOf] <;> omega
    · obtain rfl : k = 0 := by omega
      have hvw := HOF.out v hv (fun u hu => H1.out u (Nat.zero_le _) hu) (fun u hu => H2.out u (Nat.zero_le _) hu)
      rw [← hvw]
      clear hvw H1 H2 hkv hk0 HOF HCO HCL hv hk
      have HX0 := HX
      clear HX
      rw [show ((0 : Nat) : Int) - 1 = -1 from rfl]
      have hz0 : decide ((0 : Int) ≤ -1) = false := by decide
      go_wp2
      go_loopw [5, 6, 7, 8, 9] (fun a t8 cq ix _ wr => ∃ i, i ≤ n ∧ ix = .int .i64 i ∧ t8 = .string ⟨(Pat.tl wd 0 (M.take i)).toArray⟩ ∧ cq = .int .i64 (Pat.cnt wd (M.take i) : Nat) ∧ Hid (wr.ownsRow w.heap.size 33 1 a i (u64s (Pat.inn wd (M.take i)))) ∧ Hid (Ext w wr)) (fun _ _ _ ix _ _ => n - (intOf ix).toNat)
      case atStart => exact ⟨0, Nat.zero_le _, rfl, rfl, rfl, hid (World.ownsRow_nil _ _ _ _), HX0⟩
      case round =>
        obtain ⟨i, hi, rfl, rfl, rfl, HO, HX⟩ := hrel
        by_cases hlt : i < n
        · have hltI : (i : Int) < (n : Int) := by omega
          obtain ⟨z, hz⟩ : ∃ z, l[i]? = some z := ⟨_, List.getElem?_eq_getElem (by rw [HN.out]; exact hlt)⟩
          have hx := HGM.out i z hz
          have hbz := HLE.out z (List.mem_of_getElem? hz)
          obtain ⟨b1, o1, e1, l1, c1⟩ := (HR.out.keep HX.out).num00 (by rw [HN.out]; omega)
          subst e1
          have d0 := c1 i z hz
          have d0r := cell_regrown d0
          obtain ⟨x, hxe⟩ : ∃ x, x = z - b := ⟨_, rfl⟩
          rw [← hxe] at hx
          have hmem := List.mem_of_getElem? hx
          have hxl := HML.out x hmem
          have hsub : (z : Int) - (b : Int) = (x : Int) := by omega
          have hxI : (x : Int) ≤ 18446744073709551615 := by omega
          have hwx : IntKind.u64.wrap (x : Int) = (x : Int) := by rw [IntKind.wrap_u64]; omega
          have CF := hid (HFI.out x hmem)
          have CW := hid (HWR.out x hmem)
          have COB := hid (fun wx => oneByte_any (i : Int) wx (by omega) (by have := HN64.out; omega))
          rw [Int.toNat_natCast] at COB
          obtain ⟨XT, hXT⟩ : ∃ S : ByteArray, S = ⟨(Pat.tl wd 0 (M.take i)).toArray⟩ := ⟨_, rfl⟩
          have htll := HTLL.out i
          have hxtl := HXL.out i
          have hcl := HCNL.out i
          have htk : (M.take i).length ≤ n := by rw [List.length_take]; omega
          have hXs : XT.size ≤ 640 := by rw [hXT, str_size]; have := HN64.out; omega
          have hcI : ((Pat.cnt wd (M.take i) : Nat) : Int) ≤ 64 := by have := HN64.out; omega
          rw [← hXT]
          have HXT := hid hXT
          obtain ⟨A3, c3, rfl, hrd3, _⟩ := Rd.owned HO.out
          have HI := hid (show i ≤ 64 by have := HN64.out; omega)
          have HTAK := hid (take_succ_snoc' hx)
          by_cases ho : wd < Lib.bitLen x
          · rw [Bits.fitsB_false ho] at CF
            have HTL := hid (Pat.tl_at hx ho)
            have HCN := hid (Pat.cnt_at hx ho)
            have HIN := hid (show Pat.inn wd (M.take (i + 1)) = Pat.inn wd (M.take i) ++ [0] by rw [HTAK.out]; unfold Pat.inn; rw [List.map_append]; simp [ho])
            have hvl := Vary.wr_len x
            have hv8 := Vary.beh_le8 x
            obtain ⟨X2b, hX2b⟩ : ∃ S : ByteArray, S = ⟨#[UInt8.ofNat i]⟩ := ⟨_, rfl⟩
            obtain ⟨X3b, hX3b⟩ : ∃ S : ByteArray, S = ⟨(Vary.wr x).toArray⟩ := ⟨_, rfl⟩
            rw [← hX3b] at CW
            rw [← hX2b] at COB
            have hz2 : X2b.size = 1 := by rw [hX2b]; rfl
            have hz3 : X3b.size ≤ 9 := by rw [hX3b, str_size]; omega
            have HX2b := hid hX2b
            have HX3b := hid hX3b
            clear hx hmem hxl c1 hXT htll hxtl hcl htk hX2b hX3b hvl hv8 ho hz hxe hbz hrd3
            generalize Pat.cnt wd (M.take i) = q at *
            generalize Pat.inn wd (M.take i) = L at *
            go_wp2
            refine wp_region_walk [(0, true), (1, true), (2, true), (3, true), (4, true), (5, false), (6, true), (7, true)] (by kernel_rfl) (by kernel_rfl) (fun _ _ _ _ _ h => h) (by kernel_rfl) (by rfl) ?_
            simp only [List.filterMap_cons, List.filterMap_nil, List.getElem?_toArray, List.getElem?_cons_zero, List.getElem?_cons_succ, Option.map_some]
            repeat (refine wpM_val (by rfl) ?_; intro K hK; go_big_quiet_op; go_big_quiet_on)
            have HY1 : Hid (Ext wr wr.drew) := hid (Ext.draw (ext_refl wr))
            refine wpM_do (by rfl) ?_
            intro K hK
            go_simp
            refine Calls.mono (CB.out _ (HX.out.then HY1.out)) ?_
            rintro e _ ⟨rfl, rfl⟩
            refine hK _ _ HY1.out ?_
            clear K hK
            repeat (refine wpM_val (by rfl) ?_; intro K hK; go_big_quiet_op; go_big_quiet_on)
            refine wpM_nil ?_
            have HO2 := hid (own_ext HO.out HY1.out)
            have HX2 := hid (HX.out.then HY1.out)
            clear HY1
            generalize wr.drew = wq at HO2 HX2 ⊢
            go_wp2_with fail
            refine Calls.mono (CF.out _) ?_
            rintro e _ ⟨rfl, rfl⟩
            go_wp2_with (first
              | (go_at_call 70; refine Calls.mono (COB.out _) ?_; rintro e w6 ⟨rfl, hx⟩; replace HO5 := hid (own_ext HO5.out hx); replace HX5 := hid (Ext.then HX5.out hx); clear hx)
              | (go_at_call 37; refine Calls.mono (CW.out _) ?_; rintro e w7 ⟨rfl, hx⟩; replace HO5 := hid (own_ext HO5.out hx); replace HX5 := hid (Ext.then HX5.out hx); clear hx)
              | (at_builtin; refine wpList_app rfl (.tmp 42) (.tmp 43) rowU64 rfl _ i _ rfl (own_ext HO2.out ((ext_refl _).new _)) _ 1 (u64s [0]) rfl (Src.rd Try.underlying22 _ 1 1 _ rfl (rd_lit rfl rfl) (u64s_one _) (fun h => by cases h)) (by have := HI.out; unfold maxLen; omega) (by have := HI.out; omega) (by have := HX2.out.size; simp; omega) ?_; intro v' w5 hown5 hgrow hat hbel; have HO5 := hid hown5; have HX5 := hid (Below.trans (Ext.new HX2.out _) hbel); obtain ⟨A5, c5, rfl, _⟩ := Rd.owned HO5.out; clear hown5 hgrow hat hbel))
            go_roundw
            case rel => exact ⟨i + 1, by omega, by go_num, by rw [HTL.out, HXT.out, HX2b.out, HX3b.out, show (⟨#[UInt8.ofNat i]⟩ : ByteArray) = ⟨[UInt8.ofNat i].toArray⟩ from rfl, str_app, str_app], by rw [HCN.out]; rfl, hid (by rw [HIN.out, u64s_app]; exact HO5.out), HX5⟩
            case measure => simp [intOf]; omega
          · rw [Bits.fitsB_true (by omega)] at CF
            have HTL := hid (Pat.tl_no hx ho)
            have HCN := hid (Pat.cnt_no hx ho)
            have HIN := hid (show Pat.inn wd (M.take (i + 1)) = Pat.inn wd (M.take i) ++ [x] by rw [HTAK.out]; unfold Pat.inn; rw [List.map_append]; simp [ho])
            clear hx hmem hxl c1 hXT htll hxtl hcl htk ho hz hxe hbz hrd3
            generalize Pat.inn wd (M.take i) = L at *
            go_wp2
            refine wp_region_walk [(0, true), (1, true), (2, true), (3, true), (4, true), (5, false), (6, true), (7, true)] (by kernel_rfl) (by kernel_rfl) (fun _ _ _ _ _ h => h) (by kernel_rfl) (by rfl) ?_
            simp only [List.filterMap_cons, List.filterMap_nil, List.getElem?_toArray, List.getElem?_cons_zero, List.getElem?_cons_succ, Option.map_some]
            repeat (refine wpM_val (by rfl) ?_; intro K hK; go_big_quiet_op; go_big_quiet_on)
            have HY1 : Hid (Ext wr wr.drew) := hid (Ext.draw (ext_refl wr))
            refine wpM_do (by rfl) ?_
            intro K hK
            go_simp
            refine Calls.mono (CB.out _ (HX.out.then HY1.out)) ?_
            rintro e _ ⟨rfl, rfl⟩
            refine hK _ _ HY1.out ?_
            clear K hK
            repeat (refine wpM_val (by rfl) ?_; intro K hK; go_big_quiet_op; go_big_quiet_on)
            refine wpM_nil ?_
            have HO2 := hid (own_ext HO.out HY1.out)
            have HX2 := hid (HX.out.then HY1.out)
            clear HY1
            generalize wr.drew = wq at HO2 HX2 ⊢
            go_wp2_with fail
            refine Calls.mono (CF.out _) ?_
            rintro e _ ⟨rfl, rfl⟩
            go_wp2_with (at_builtin; refine wpList_app rfl (.tmp 38) (.tmp 40) rowU64 rfl _ i _ rfl (own_ext HO2.out ((ext_refl _).new _)) _ 1 (u64s [x]) rfl (Src.rd Try.underlying22 _ 1 1 _ rfl (rd_lit rfl rfl) (u64s_one _) (fun h => by cases h)) (by have := HI.out; unfold maxLen; omega) (by have := HI.out; omega) (by have := HX2.out.size; simp; omega) ?_; intro v' w5 hown5 hgrow hat hbel; have HO5 := hid hown5; have HX5 := hid (Below.trans (Ext.new HX2.out _) hbel); obtain ⟨A5, c5, rfl, _⟩ := Rd.owned HO5.out; clear hown5 hgrow hat hbel)
            go_roundw
            case rel => exact ⟨i + 1, by omega, by go_num, by rw [HTL.out, HXT.out], by rw [HCN.out], hid (by rw [HIN.out, u64s_app]; exact HO5.out), HX5⟩
            case measure => simp [intOf]; omega
        · obtain rfl : i = n := by omega
          have htk : M.take i = M := List.take_of_length_le (by rw [HMN.out]; exact Nat.le_refl _)
          rw [htk] at HO
          have htll := HTLL.out i
          have hxtl := HXL.out i
          have hcl := HCNL.out i
          rw [htk] at htll hxtl hcl ⊢
          rw [HMN.out] at hxtl hcl
          obtain ⟨A3, c3, rfl, hrd3, _⟩ := Rd.owned HO.out
          have HPC := hid (fun wx (hx : Ext wr wx) => HPK.out A3 c3 wx (hrd3.keep hx))
          obtain ⟨q, hq⟩ : ∃ q, q = Pat.cnt wd M := ⟨_, rfl⟩
          rw [← hq] at hcl ⊢
          have hqI : (q : Int) ≤ 64 := by have := HN64.out; omega
          have CO1 := hid (fun wx => oneByte_any (wd : Int) wx (by omega) (by omega))
          have CO2 := hid (fun wx => oneByte_any (q : Int) wx (by omega) (by omega))
          rw [Int.toNat_natCast] at CO1 CO2
          obtain ⟨X1b, hX1b⟩ : ∃ S : ByteArray, S = ⟨(Vary.wr b).toArray⟩ := ⟨_, rfl⟩
          obtain ⟨X2b, hX2b⟩ : ∃ S : ByteArray, S = ⟨#[UInt8.ofNat wd]⟩ := ⟨_, rfl⟩
          obtain ⟨X5b, hX5b⟩ : ∃ S : ByteArray, S = ⟨#[UInt8.ofNat q]⟩ := ⟨_, rfl⟩
          obtain ⟨X3b, hX3b⟩ : ∃ S : ByteArray, S = ⟨(Bits.packed (Pat.inn wd M) wd).toArray⟩ := ⟨_, rfl⟩
          obtain ⟨X4b, hX4b⟩ : ∃ S : ByteArray, S = ⟨(Pat.tl wd 0 M).toArray⟩ := ⟨_, rfl⟩
          have hz1 : X1b.size ≤ 9 := by rw [hX1b, str_size, Vary.wr_len]; have := Vary.beh_le8 b; omega
          have hz2 : X2b.size = 1 := by rw [hX2b]; rfl
          have hz5 : X5b.size = 1 := by rw [hX5b]; rfl
          have hz3 : X3b.size ≤ 1000 := by
            rw [hX3b, str_size, HPL.out, Pat.inn_len, HMN.out]
            have h1 := HN64.out
            have h2 : i * wd ≤ 64 * 64 := Nat.mul_le_mul h1 (by omega)
            unfold Bits.size; omega
          have hz4 : X4b.size ≤ 640 := by rw [hX4b, str_size]; have := HN64.out; omega
          have HRES := hid (show (⟨(Pat.bys l).toArray⟩ : ByteArray) = X1b ++ X2b ++ X5b ++ X3b ++ X4b by
            rw [HBY.out, hX1b, hX2b, hX5b, hX3b, hX4b, show (⟨#[UInt8.ofNat wd]⟩ : ByteArray) = ⟨[UInt8.ofNat wd].toArray⟩ from rfl, show (⟨#[UInt8.ofNat q]⟩ : ByteArray) = ⟨[UInt8.ofNat q].toArray⟩ from rfl, str_app, str_app, str_app, str_app, hq, List.append_assoc (Vary.wr b) [UInt8.ofNat wd]]; rfl)
          rw [← hX1b] at HVB
          rw [← hX3b] at HPC
          rw [← hX2b] at CO1
          rw [← hX5b] at CO2
          rw [← hX4b]
          clear htk htll hxtl hcl hq hX1b hX2b hX3b hX4b hX5b hrd3
          go_wp2_with fail
          refine Calls.mono (CB.out _ HX.out) ?_
          rintro e _ ⟨rfl, rfl⟩
          go_wp2_with fail
          refine Calls.mono (HVB.out _) ?_
          rintro e y1 ⟨rfl, hx⟩
          have Y1 := hid hx
          clear hx
          go_wp2_with fail
          refine Calls.mono (CO1.out _) ?_
          rintro e y2 ⟨rfl, hx⟩
          have Y2 := hid (Y1.out.then hx)
          clear hx
          go_wp2_with fail
          refine Calls.mono (CO2.out _) ?_
          rintro e y3 ⟨rfl, hx⟩
          have Y3 := hid (Y2.out.then hx)
          clear hx
          go_wp2_with fail
          refine Calls.mono (HPC.out _ Y3.out) ?_
          rintro e y4 ⟨rfl, hx⟩
          have Y4 := hid (HX.out.then (Y3.out.then hx))
          clear hx
          go_wp2
          go_returns
          exact ⟨by rw [HRES.out]; rfl, Y4.out⟩
end Go.Proofs.Ytdblegdbfdhepaa
