/- Texts of this claim, put together: walks and plain laws. -/
import Derived.Test.YthgnipangcmanaaGreatZC4
import Derived.Test.YthgnipangcmanaaGreatZC5
import Derived.Test.YthgnipangcmanaaGreatZC3
import Derived.Test.YthgnipangcmanaaGreatZC2
import Derived.Test.YthgnipangcmanaaGreatZF1
import Derived.Test.YthgnipangcmanaaGreatZC1
import Derived.Test.YthgnipangcmanaaGreatZE1
section
namespace Go.Proofs.YthgnipangcmanaaGreat
open Go.RowKit Hy
set_option maxRecDepth 100000 in
set_option maxHeartbeats 1600000 in
theorem pgNumsOf_any (l : List Cel) (A : Option Addr) (n cap : Nat) (w : World) (hn : l.length = n) (hr : Rd w A (cls l)) (hnl : n ≤ 64) :
    Calls Tryz.prog 38 #[.slice A n cap] w fun e w' => ∃ B c, e = .returned (.slice B n c) ∧ Rd w' B (u64s (Pge.nums l)) ∧ Ext w w' ∧ n ≤ c := by
  have HN := hid hn
  have HA := hid hr
  have HL := hid hnl
  have hnI : (n : Int) ≤ 64 := by omega
  clear hn hr hnl
  go_enter Tryz.func38, Tryz.ntmps38
  go_wp2
  go_loopw [3, 4] (fun v c wr => ∃ k : Nat, k ≤ n ∧ c = .int .i64 k ∧ Hid (wr.ownsRow w.heap.size 34 1 v k (u64s (Pge.nums (l.take k)))) ∧ Hid (Ext w wr)) (fun _ c _ => n - (intOf c).toNat)
  case atStart => exact ⟨0, Nat.zero_le _, rfl, hid (World.ownsRow_nil _ _ _ _), hid (ext_refl _)⟩
  case round =>
    obtain ⟨k, hk, rfl, HO, HX⟩ := hrel
    by_cases hlt : k < n
    · have hka : k < l.length := by rw [HN.out]; exact hlt
      obtain ⟨b1, o1, e1, l1, c1⟩ := HA.out.cels k hka
      subst e1
      have d0 := (HX.out.cell (p := ⟨b1, o1 + k * 3, none⟩) l1).trans (c1 k hka).1
      have d1 := (HX.out.cell (p := ⟨b1, o1 + k * 3 + 1, none⟩) l1).trans (c1 k hka).2.1
      have d2 := (HX.out.cell (p := ⟨b1, o1 + k * 3 + 2, none⟩) l1).trans (c1 k hka).2.2
      have HE := hid (Pge.nums_take l k hka)
      have HK := hid hlt
      generalize l[k] = c at *
      generalize Pge.nums (l.take k) = M at *
      obtain ⟨kk, nn, ss⟩ := c
      simp only at d0 d1 d2 HE
      have hk64 := HL.out
      clear c1 hka l1 hk hlt
      go_wp2_with (at_builtin; go_loud (refine wpList_app rfl (.tmp 11) (.tmp 17) rowU64 rfl _ k (u64s M) rfl (own_ext HO.out (Ext.new (ext_refl _) _)) _ 1 (u64s [nn]) rfl (Src.rd Tryz.underlying58 _ 1 1 _ rfl (rd_lit (by simp) rfl) (u64s_one _) (fun h => by cases h)) (by have := HK.out; simp only [maxLen]; omega) (by have := HK.out; omega) (by have := HX.out.size; simp at this ⊢; omega) ?_; intro v' w5 hown5 hgrow hat hbel); have HO5 := hid hown5; have HX5 : Hid (Ext w w5) := hid (Below.trans (Ext.new HX.out _) hbel); clear hown5 hgrow hat hbel)
      go_roundw
      case rel => exact ⟨k + 1, by have := HK.out; omega, by go_num, hid (by rw [HE.out, u64s_app]; exact HO5.out), HX5⟩
      case measure => simp [intOf]; have := HK.out; omega
    · obtain rfl : k = n := by omega
      rw [List.take_of_length_le (by rw [HN.out]; exact Nat.le_refl _)] at HO
      obtain ⟨A3, c3, rfl, hrd3, _, hc3, _⟩ := Rd.owned HO.out
      have HR3 := hid hrd3
      have HC3 := hid hc3
      clear hrd3 hc3 hlt hk
      go_wp2
      go_returns
      exact ⟨A3, c3, rfl, HR3.out, HX.out, HC3.out⟩
set_option maxRecDepth 100000 in
set_option maxHeartbeats 1600000 in
theorem pgWordsOf_any (l : List Cel) (A : Option Addr) (n cap : Nat) (w : World) (hn : l.length = n) (hr : Rd w A (cls l)) (hnl : n ≤ 64) :
    Calls Tryz.prog 40 #[.slice A n cap] w fun e w' => ∃ B c, e = .returned (.slice B n c) ∧ Rd w' B (txs (Pge.wrds l)) ∧ Ext w w' ∧ n ≤ c := by
  have HN := hid hn
  have HA := hid hr
  have HL := hid hnl
  have hnI : (n : Int) ≤ 64 := by omega
  clear hn hr hnl
  go_enter Tryz.func40, Tryz.ntmps40
  go_wp2
  go_loopw [3, 4] (fun v c wr => ∃ k : Nat, k ≤ n ∧ c = .int .i64 k ∧ Hid (wr.ownsRow w.heap.size 9 1 v k (txs (Pge.wrds (l.take k)))) ∧ Hid (Ext w wr)) (fun _ c _ => n - (intOf c).toNat)
  case atStart => exact ⟨0, Nat.zero_le _, rfl, hid (World.ownsRow_nil _ _ _ _), hid (ext_refl _)⟩
  case round =>
    obtain ⟨k, hk, rfl, HO, HX⟩ := hrel
    by_cases hlt : k < n
    · have hka : k < l.length := by rw [HN.out]; exact hlt
      obtain ⟨b1, o1, e1, l1, c1⟩ := HA.out.cels k hka
      subst e1
      have d0 := (HX.out.cell (p := ⟨b1, o1 + k * 3, none⟩) l1).trans (c1 k hka).1
      have d1 := (HX.out.cell (p := ⟨b1, o1 + k * 3 + 1, none⟩) l1).trans (c1 k hka).2.1
      have d2 := (HX.out.cell (p := ⟨b1, o1 + k * 3 + 2, none⟩) l1).trans (c1 k hka).2.2
      have HE := hid (Pge.wrds_take l k hka)
      have HK := hid hlt
      generalize l[k] = c at *
      generalize Pge.wrds (l.take k) = M at *
      obtain ⟨kk, nn, ss⟩ := c
      simp only at d0 d1 d2 HE
      obtain ⟨tt, htt⟩ : ∃ tt : List UInt8, ss = ⟨tt.toArray⟩ := ⟨ss.data.toList, (str_self ss).symm⟩
      subst htt
      rw [show (⟨tt.toArray⟩ : ByteArray).data.toList = tt from rfl] at HE
      have hk64 := HL.out
      clear c1 hka l1 hk hlt
      go_wp2_with (at_builtin; go_loud (refine wpList_app rfl (.tmp 11) (.tmp 17) rowTx rfl _ k (txs M) rfl (own_ext HO.out (Ext.new (ext_refl _) _)) _ 1 (txs [tt]) rfl (Src.rd Tryz.underlying64 _ 1 1 _ rfl (rd_lit (by simp) rfl) (txs_one _) (fun h => by cases h)) (by have := HK.out; simp only [maxLen]; omega) (by have := HK.out; omega) (by have := HX.out.size; simp at this ⊢; omega) ?_; intro v' w5 hown5 hgrow hat hbel); have HO5 := hid hown5; have HX5 : Hid (Ext w w5) := hid (Below.trans (Ext.new HX.out _) hbel); clear hown5 hgrow hat hbel)
      go_roundw
      case rel => exact ⟨k + 1, by have := HK.out; omega, by go_num, hid (by rw [HE.out, txs_app]; exact HO5.out), HX5⟩
      case measure => simp [intOf]; have := HK.out; omega
    · obtain rfl : k = n := by omega
      rw [List.take_of_length_le (by rw [HN.out]; exact Nat.le_refl _)] at HO
      obtain ⟨A3, c3, rfl, hrd3, _, hc3, _⟩ := Rd.owned HO.out
      have HR3 := hid hrd3
      have HC3 := hid hc3
      clear hrd3 hc3 hlt hk
      go_wp2
      go_returns
      exact ⟨A3, c3, rfl, HR3.out, HX.out, HC3.out⟩
set_option maxRecDepth 100000 in
set_option maxHeartbeats 1600000 in
theorem pageBody_11 (l : List Cel) (A : Option Addr) (n cap : Nat) (w : World) (hn : l.length = n) (hr : Rd w A (cls l)) (hok : Cel.cchk 1 l = 0) (hl : ∀ x ∈ Pge.nums (Cel.dense l), x < 18446744073709551616) (hs : (Cel.dense l).length < l.length) (ht : 0 < (Cel.dense l).length) :
    Calls Tryz.prog 16 #[.int .i64 1, .slice A n cap] w fun e w' => e = .returned (.string ⟨(Pge.bdy 1 l).toArray⟩) ∧ Ext w w' := by
  obtain ⟨g1, g2, g3⟩ := Cel.cchk_iff.1 hok
  have hle := Cel.dense_len l
  obtain ⟨dl, hdl⟩ : ∃ dl, dl = (Cel.dense l).length := ⟨_, rfl⟩
  have hbd := Pge.bdy_len hok hl
  have hwf := Pge.wrds_fit hok
  have hw1 : (Vary.wr n).length ≤ 9 := by rw [Vary.wr_len]; have := Vary.beh_le8 n; omega
  have hw2 : (Vary.wr dl).length ≤ 9 := by rw [Vary.wr_len]; have := Vary.beh_le8 dl; omega
  have hpl := Pge.pck_len hok hl
  have HD := hid (denseOf_any l A n cap w hn hr (by omega))
  have HV1 := hid (fun wx => varyBytes_any n wx (by omega))
  have HV2 := hid (fun wx => varyBytes_any dl wx (by omega))
  have HOB := hid (fun wx => oneByte_any 1 wx (by omega) (by omega))
  have HTH := hid (fun wx (hx : Ext w wx) => thereOf_any l A n cap wx hn (hr.keep hx) (by omega))
  have HON := hid (fun B c wx (h : Rd wx B (bls (thereL l))) => onesOf_any (thereL l) B n c wx (by rw [thereL_len, hn]) h (by omega))
  have HPA := hid (fun B c wx (h : Rd wx B (u64s (Mrk.ones (thereL l)))) => packedOf_any (Mrk.ones (thereL l)) B n c 1 wx (by rw [Mrk.ones_len, thereL_len, hn]) h (Pge.ones_lt2 _) (by omega) (by decide))
  have hmk : Pge.mks l = Bits.packed (Mrk.ones (thereL l)) 1 := by unfold Pge.mks; rw [if_pos hs]
  rw [← hmk] at HPA
  have hml := Pge.mks_len (l := l) (by omega)
  have HNO := hid (fun D m c wx (hm : m = dl) (h : Rd wx D (cls (Cel.dense l))) => pgNumsOf_any (Cel.dense l) D m c wx (by rw [hm, hdl]) h (by omega))
  have HBB := hid (fun B m c wx (hm : m = dl) (h : Rd wx B (u64s (Pge.nums (Cel.dense l)))) (hc : m ≤ c) => bestNumberBytes_any (Pge.nums (Cel.dense l)) B m c wx (by rw [Pge.nums_len, hm, hdl]) h hc hl (by omega))
  have hdn : Pge.dns 1 l = Cod.up (Cod.nm (Pge.nums (Cel.dense l))) 1 3 := by unfold Pge.dns Pge.pck; rw [if_pos ht, if_pos rfl]
  have hpp : Pge.pck 1 (Cel.dense l) = Cod.up (Cod.nm (Pge.nums (Cel.dense l))) 1 3 := by unfold Pge.pck; rw [if_pos rfl]
  rw [← hpp] at HBB hdn
  have hby : Pge.bdy 1 l = UInt8.ofNat (1 : Int).toNat :: (Vary.wr n ++ Vary.wr dl ++ Pge.mks l ++ Pge.dns 1 l) := by unfold Pge.bdy; rw [hn, ← hdl]
  rw [hmk, hdn] at hby
  obtain ⟨X0, hX0⟩ : ∃ S : ByteArray, S = ⟨#[UInt8.ofNat (1 : Int).toNat]⟩ := ⟨_, rfl⟩
  obtain ⟨X1, hX1⟩ : ∃ S : ByteArray, S = ⟨(Vary.wr n).toArray⟩ := ⟨_, rfl⟩
  obtain ⟨X2, hX2⟩ : ∃ S : ByteArray, S = ⟨(Vary.wr dl).toArray⟩ := ⟨_, rfl⟩
  rw [← hX0] at HOB
  rw [← hX1] at HV1
  rw [← hX2] at HV2
  obtain ⟨X3, hX3⟩ : ∃ S : ByteArray, S = ⟨(Pge.mks l).toArray⟩ := ⟨_, rfl⟩
  have hz3 : X3.size ≤ 8 := by rw [hX3, str_size]; exact hml
  rw [← hX3] at HPA
  obtain ⟨X4, hX4⟩ : ∃ S : ByteArray, S = ⟨(Pge.pck 1 (Cel.dense l)).toArray⟩ := ⟨_, rfl⟩
  have hz4 : X4.size ≤ 2001 := by rw [hX4, str_size]; exact hpl
  rw [← hX4] at HBB
  have hz0 : X0.size = 1 := by rw [hX0]; rfl
  have hz1 : X1.size ≤ 9 := by rw [hX1, str_size]; exact hw1
  have hz2 : X2.size ≤ 9 := by rw [hX2, str_size]; exact hw2
  have hVV : X0 ++ X1 ++ X2 ++ X3 ++ X4 = ⟨(Pge.bdy 1 l).toArray⟩ := by
    rw [hby, hX0, hX1, hX2, hX3, hmk, hX4]
    rw [show (⟨#[UInt8.ofNat (1 : Int).toNat]⟩ : ByteArray) = ⟨[UInt8.ofNat (1 : Int).toNat].toArray⟩ from rfl]
    simp only [str_app]
    simp
  have HVV := hid hVV
  have hnI : (n : Int) ≤ 64 := by omega
  have hdI : (dl : Int) ≤ 64 := by omega
  have hdn1 : (dl : Int) < (n : Int) := by omega
  have hdn2 : (0 : Int) < (dl : Int) := by omega
  have hwn : IntKind.u64.wrap (n : Int) = (n : Int) := by rw [IntKind.wrap_u64]; omega
  have hwd : IntKind.u64.wrap (dl : Int) = (dl : Int) := by rw [IntKind.wrap_u64]; omega
  have HDL := hid hdl
  rw [← hdl] at HD
  generalize Pge.bdy 1 l = SS at *
  clear hVV hby hX0 hX1 hX2 hX3 hml hX4 hpp hw1 hw2 hpl hbd hwf hle g1 g2 g3 hok hl hn hr hmk hdn hdl hs ht
  go_enter Tryz.func16, Tryz.ntmps16
  go_wp2_with fail
  refine Calls.mono HD.out ?_
  rintro e w1 ⟨D, c, rfl, h1, hx⟩
  have RD := hid h1
  have Xp := hid hx
  clear h1 hx
  go_wp2_with fail
  refine Calls.mono (HOB.out _) ?_
  rintro e w1 ⟨rfl, hx⟩
  replace Xp := hid (Xp.out.then hx)
  replace RD := hid (RD.out.keep hx)
  clear hx 
  go_wp2_with fail
  refine Calls.mono (HV1.out _) ?_
  rintro e w2 ⟨rfl, hx⟩
  replace Xp := hid (Xp.out.then hx)
  replace RD := hid (RD.out.keep hx)
  clear hx 
  go_wp2_with fail
  refine Calls.mono (HV2.out _) ?_
  rintro e w3 ⟨rfl, hx⟩
  replace Xp := hid (Xp.out.then hx)
  replace RD := hid (RD.out.keep hx)
  clear hx 
  go_wp2_with fail
  refine Calls.mono (HTH.out _ Xp.out) ?_
  rintro e w4 ⟨B5, c5, rfl, h1, hx⟩
  replace Xp := hid (Xp.out.then hx)
  replace RD := hid (RD.out.keep hx)
  have R5 := hid h1
  clear hx h1
  go_wp2_with fail
  refine Calls.mono (HON.out _ _ _ R5.out) ?_
  rintro e w5 ⟨B6, c6, rfl, h1, hx⟩
  replace Xp := hid (Xp.out.then hx)
  replace RD := hid (RD.out.keep hx)
  replace R5 := hid (R5.out.keep hx)
  have R6 := hid h1
  clear hx h1
  go_wp2_with fail
  refine Calls.mono (HPA.out _ _ _ R6.out) ?_
  rintro e w6 ⟨rfl, hx⟩
  replace Xp := hid (Xp.out.then hx)
  replace RD := hid (RD.out.keep hx)
  replace R5 := hid (R5.out.keep hx)
  replace R6 := hid (R6.out.keep hx)
  clear hx 
  go_wp2_with fail
  refine Calls.mono (HNO.out _ _ _ _ rfl RD.out) ?_
  rintro e w7 ⟨B7, c7, rfl, h1, hx, hc⟩
  replace Xp := hid (Xp.out.then hx)
  have R7 := hid h1
  clear hx h1
  have HC7 := hid hc
  clear hc
  go_wp2_with fail
  refine Calls.mono (HBB.out _ _ _ _ rfl R7.out HC7.out) ?_
  rintro e w8 ⟨rfl, hx⟩
  replace Xp := hid (Xp.out.then hx)
  replace R7 := hid (R7.out.keep hx)
  clear hx 
  go_wp2
  go_returns
  exact ⟨by rw [← HVV.out]; rfl, Xp.out⟩
set_option maxRecDepth 100000 in
set_option maxHeartbeats 1600000 in
theorem pageBody_12 (l : List Cel) (A : Option Addr) (n cap : Nat) (w : World) (hn : l.length = n) (hr : Rd w A (cls l)) (hok : Cel.cchk 2 l = 0) (hl : ∀ x ∈ Pge.nums (Cel.dense l), x < 18446744073709551616) (hs : (Cel.dense l).length < l.length) (ht : 0 < (Cel.dense l).length) :
    Calls Tryz.prog 16 #[.int .i64 2, .slice A n cap] w fun e w' => e = .returned (.string ⟨(Pge.bdy 2 l).toArray⟩) ∧ Ext w w' := by
  obtain ⟨g1, g2, g3⟩ := Cel.cchk_iff.1 hok
  have hle := Cel.dense_len l
  obtain ⟨dl, hdl⟩ : ∃ dl, dl = (Cel.dense l).length := ⟨_, rfl⟩
  have hbd := Pge.bdy_len hok hl
  have hwf := Pge.wrds_fit hok
  have hw1 : (Vary.wr n).length ≤ 9 := by rw [Vary.wr_len]; have := Vary.beh_le8 n; omega
  have hw2 : (Vary.wr dl).length ≤ 9 := by rw [Vary.wr_len]; have := Vary.beh_le8 dl; omega
  have hpl := Pge.pck_len hok hl
  have HD := hid (denseOf_any l A n cap w hn hr (by omega))
  have HV1 := hid (fun wx => varyBytes_any n wx (by omega))
  have HV2 := hid (fun wx => varyBytes_any dl wx (by omega))
  have HOB := hid (fun wx => oneByte_any 2 wx (by omega) (by omega))
  have HTH := hid (fun wx (hx : Ext w wx) => thereOf_any l A n cap wx hn (hr.keep hx) (by omega))
  have HON := hid (fun B c wx (h : Rd wx B (bls (thereL l))) => onesOf_any (thereL l) B n c wx (by rw [thereL_len, hn]) h (by omega))
  have HPA := hid (fun B c wx (h : Rd wx B (u64s (Mrk.ones (thereL l)))) => packedOf_any (Mrk.ones (thereL l)) B n c 1 wx (by rw [Mrk.ones_len, thereL_len, hn]) h (Pge.ones_lt2 _) (by omega) (by decide))
  have hmk : Pge.mks l = Bits.packed (Mrk.ones (thereL l)) 1 := by unfold Pge.mks; rw [if_pos hs]
  rw [← hmk] at HPA
  have hml := Pge.mks_len (l := l) (by omega)
  have HNO := hid (fun D m c wx (hm : m = dl) (h : Rd wx D (cls (Cel.dense l))) => pgWordsOf_any (Cel.dense l) D m c wx (by rw [hm, hdl]) h (by omega))
  have HBB := hid (fun B m c wx (hm : m = dl) (h : Rd wx B (txs (Pge.wrds (Cel.dense l)))) => bestTextBytes_any (Pge.wrds (Cel.dense l)) B m c wx (by rw [Pge.wrds_len, hm, hdl]) h hwf (by omega))
  have hdn : Pge.dns 2 l = Cod.up (Cod.tx (Pge.wrds (Cel.dense l))) 5 2 := by unfold Pge.dns Pge.pck; rw [if_pos ht, if_neg (by decide)]
  have hpp : Pge.pck 2 (Cel.dense l) = Cod.up (Cod.tx (Pge.wrds (Cel.dense l))) 5 2 := by unfold Pge.pck; rw [if_neg (by decide)]
  rw [← hpp] at HBB hdn
  have hby : Pge.bdy 2 l = UInt8.ofNat (2 : Int).toNat :: (Vary.wr n ++ Vary.wr dl ++ Pge.mks l ++ Pge.dns 2 l) := by unfold Pge.bdy; rw [hn, ← hdl]
  rw [hmk, hdn] at hby
  obtain ⟨X0, hX0⟩ : ∃ S : ByteArray, S = ⟨#[UInt8.ofNat (2 : Int).toNat]⟩ := ⟨_, rfl⟩
  obtain ⟨X1, hX1⟩ : ∃ S : ByteArray, S = ⟨(Vary.wr n).toArray⟩ := ⟨_, rfl⟩
  obtain ⟨X2, hX2⟩ : ∃ S : ByteArray, S = ⟨(Vary.wr dl).toArray⟩ := ⟨_, rfl⟩
  rw [← hX0] at HOB
  rw [← hX1] at HV1
  rw [← hX2] at HV2
  obtain ⟨X3, hX3⟩ : ∃ S : ByteArray, S = ⟨(Pge.mks l).toArray⟩ := ⟨_, rfl⟩
  have hz3 : X3.size ≤ 8 := by rw [hX3, str_size]; exact hml
  rw [← hX3] at HPA
  obtain ⟨X4, hX4⟩ : ∃ S : ByteArray, S = ⟨(Pge.pck 2 (Cel.dense l)).toArray⟩ := ⟨_, rfl⟩
  have hz4 : X4.size ≤ 2001 := by rw [hX4, str_size]; exact hpl
  rw [← hX4] at HBB
  have hz0 : X0.size = 1 := by rw [hX0]; rfl
  have hz1 : X1.size ≤ 9 := by rw [hX1, str_size]; exact hw1
  have hz2 : X2.size ≤ 9 := by rw [hX2, str_size]; exact hw2
  have hVV : X0 ++ X1 ++ X2 ++ X3 ++ X4 = ⟨(Pge.bdy 2 l).toArray⟩ := by
    rw [hby, hX0, hX1, hX2, hX3, hmk, hX4]
    rw [show (⟨#[UInt8.ofNat (2 : Int).toNat]⟩ : ByteArray) = ⟨[UInt8.ofNat (2 : Int).toNat].toArray⟩ from rfl]
    simp only [str_app]
    simp
  have HVV := hid hVV
  have hnI : (n : Int) ≤ 64 := by omega
  have hdI : (dl : Int) ≤ 64 := by omega
  have hdn1 : (dl : Int) < (n : Int) := by omega
  have hdn2 : (0 : Int) < (dl : Int) := by omega
  have hwn : IntKind.u64.wrap (n : Int) = (n : Int) := by rw [IntKind.wrap_u64]; omega
  have hwd : IntKind.u64.wrap (dl : Int) = (dl : Int) := by rw [IntKind.wrap_u64]; omega
  have HDL := hid hdl
  rw [← hdl] at HD
  generalize Pge.bdy 2 l = SS at *
  clear hVV hby hX0 hX1 hX2 hX3 hml hX4 hpp hw1 hw2 hpl hbd hwf hle g1 g2 g3 hok hl hn hr hmk hdn hdl hs ht
  go_enter Tryz.func16, Tryz.ntmps16
  go_wp2_with fail
  refine Calls.mono HD.out ?_
  rintro e w1 ⟨D, c, rfl, h1, hx⟩
  have RD := hid h1
  have Xp := hid hx
  clear h1 hx
  go_wp2_with fail
  refine Calls.mono (HOB.out _) ?_
  rintro e w1 ⟨rfl, hx⟩
  replace Xp := hid (Xp.out.then hx)
  replace RD := hid (RD.out.keep hx)
  clear hx 
  go_wp2_with fail
  refine Calls.mono (HV1.out _) ?_
  rintro e w2 ⟨rfl, hx⟩
  replace Xp := hid (Xp.out.then hx)
  replace RD := hid (RD.out.keep hx)
  clear hx 
  go_wp2_with fail
  refine Calls.mono (HV2.out _) ?_
  rintro e w3 ⟨rfl, hx⟩
  replace Xp := hid (Xp.out.then hx)
  replace RD := hid (RD.out.keep hx)
  clear hx 
  go_wp2_with fail
  refine Calls.mono (HTH.out _ Xp.out) ?_
  rintro e w4 ⟨B5, c5, rfl, h1, hx⟩
  replace Xp := hid (Xp.out.then hx)
  replace RD := hid (RD.out.keep hx)
  have R5 := hid h1
  clear hx h1
  go_wp2_with fail
  refine Calls.mono (HON.out _ _ _ R5.out) ?_
  rintro e w5 ⟨B6, c6, rfl, h1, hx⟩
  replace Xp := hid (Xp.out.then hx)
  replace RD := hid (RD.out.keep hx)
  replace R5 := hid (R5.out.keep hx)
  have R6 := hid h1
  clear hx h1
  go_wp2_with fail
  refine Calls.mono (HPA.out _ _ _ R6.out) ?_
  rintro e w6 ⟨rfl, hx⟩
  replace Xp := hid (Xp.out.then hx)
  replace RD := hid (RD.out.keep hx)
  replace R5 := hid (R5.out.keep hx)
  replace R6 := hid (R6.out.keep hx)
  clear hx 
  go_wp2_with fail
  refine Calls.mono (HNO.out _ _ _ _ rfl RD.out) ?_
  rintro e w7 ⟨B7, c7, rfl, h1, hx, hc⟩
  replace Xp := hid (Xp.out.then hx)
  have R7 := hid h1
  clear hx h1
  have HC7 := hid hc
  clear hc
  go_wp2_with fail
  refine Calls.mono (HBB.out _ _ _ _ rfl R7.out) ?_
  rintro e w8 ⟨rfl, hx⟩
  replace Xp := hid (Xp.out.then hx)
  replace R7 := hid (R7.out.keep hx)
  clear hx 
  go_wp2
  go_returns
  exact ⟨by rw [← HVV.out]; rfl, Xp.out⟩
set_option maxRecDepth 100000 in
set_option maxHeartbeats 1600000 in
theorem pageBody_10 (kind : Int) (l : List Cel) (A : Option Addr) (n cap : Nat) (w : World) (hn : l.length = n) (hr : Rd w A (cls l)) (hok : Cel.cchk kind l = 0) (hl : ∀ x ∈ Pge.nums (Cel.dense l), x < 18446744073709551616) (hs : (Cel.dense l).length < l.length) (ht : ¬ 0 < (Cel.dense l).length) :
    Calls Tryz.prog 16 #[.int .i64 kind, .slice A n cap] w fun e w' => e = .returned (.string ⟨(Pge.bdy kind l).toArray⟩) ∧ Ext w w' := by
  obtain ⟨g1, g2, g3⟩ := Cel.cchk_iff.1 hok
  have hle := Cel.dense_len l
  obtain ⟨dl, hdl⟩ : ∃ dl, dl = (Cel.dense l).length := ⟨_, rfl⟩
  have hbd := Pge.bdy_len hok hl
  have hwf := Pge.wrds_fit hok
  have hw1 : (Vary.wr n).length ≤ 9 := by rw [Vary.wr_len]; have := Vary.beh_le8 n; omega
  have hw2 : (Vary.wr dl).length ≤ 9 := by rw [Vary.wr_len]; have := Vary.beh_le8 dl; omega
  have hpl := Pge.pck_len hok hl
  have HD := hid (denseOf_any l A n cap w hn hr (by omega))
  have HV1 := hid (fun wx => varyBytes_any n wx (by omega))
  have HV2 := hid (fun wx => varyBytes_any dl wx (by omega))
  have HOB := hid (fun wx => oneByte_any kind wx (by omega) (by omega))
  have HTH := hid (fun wx (hx : Ext w wx) => thereOf_any l A n cap wx hn (hr.keep hx) (by omega))
  have HON := hid (fun B c wx (h : Rd wx B (bls (thereL l))) => onesOf_any (thereL l) B n c wx (by rw [thereL_len, hn]) h (by omega))
  have HPA := hid (fun B c wx (h : Rd wx B (u64s (Mrk.ones (thereL l)))) => packedOf_any (Mrk.ones (thereL l)) B n c 1 wx (by rw [Mrk.ones_len, thereL_len, hn]) h (Pge.ones_lt2 _) (by omega) (by decide))
  have hmk : Pge.mks l = Bits.packed (Mrk.ones (thereL l)) 1 := by unfold Pge.mks; rw [if_pos hs]
  rw [← hmk] at HPA
  have hml := Pge.mks_len (l := l) (by omega)
  have hdn : Pge.dns kind l = [] := by unfold Pge.dns; rw [if_neg ht]
  have hby : Pge.bdy kind l = UInt8.ofNat (kind : Int).toNat :: (Vary.wr n ++ Vary.wr dl ++ Pge.mks l ++ Pge.dns kind l) := by unfold Pge.bdy; rw [hn, ← hdl]
  rw [hmk, hdn] at hby
  obtain ⟨X0, hX0⟩ : ∃ S : ByteArray, S = ⟨#[UInt8.ofNat (kind : Int).toNat]⟩ := ⟨_, rfl⟩
  obtain ⟨X1, hX1⟩ : ∃ S : ByteArray, S = ⟨(Vary.wr n).toArray⟩ := ⟨_, rfl⟩
  obtain ⟨X2, hX2⟩ : ∃ S : ByteArray, S = ⟨(Vary.wr dl).toArray⟩ := ⟨_, rfl⟩
  rw [← hX0] at HOB
  rw [← hX1] at HV1
  rw [← hX2] at HV2
  obtain ⟨X3, hX3⟩ : ∃ S : ByteArray, S = ⟨(Pge.mks l).toArray⟩ := ⟨_, rfl⟩
  have hz3 : X3.size ≤ 8 := by rw [hX3, str_size]; exact hml
  rw [← hX3] at HPA
  have hz0 : X0.size = 1 := by rw [hX0]; rfl
  have hz1 : X1.size ≤ 9 := by rw [hX1, str_size]; exact hw1
  have hz2 : X2.size ≤ 9 := by rw [hX2, str_size]; exact hw2
  have hVV : X0 ++ X1 ++ X2 ++ X3 = ⟨(Pge.bdy kind l).toArray⟩ := by
    rw [hby, hX0, hX1, hX2, hX3, hmk]
    rw [show (⟨#[UInt8.ofNat (kind : Int).toNat]⟩ : ByteArray) = ⟨[UInt8.ofNat (kind : Int).toNat].toArray⟩ from rfl]
    simp only [str_app]
    simp
  have HVV := hid hVV
  have hnI : (n : Int) ≤ 64 := by omega
  have hdI : (dl : Int) ≤ 64 := by omega
  have hdn1 : (dl : Int) < (n : Int) := by omega
  have hdn2 : ¬ (0 : Int) < (dl : Int) := by omega
  have hwn : IntKind.u64.wrap (n : Int) = (n : Int) := by rw [IntKind.wrap_u64]; omega
  have hwd : IntKind.u64.wrap (dl : Int) = (dl : Int) := by rw [IntKind.wrap_u64]; omega
  have HDL := hid hdl
  rw [← hdl] at HD
  generalize Pge.bdy kind l = SS at *
  clear hVV hby hX0 hX1 hX2 hX3 hml hw1 hw2 hpl hbd hwf hle g1 g2 g3 hok hl hn hr hmk hdn hdl hs ht
  go_enter Tryz.func16, Tryz.ntmps16
  go_wp2_with fail
  refine Calls.mono HD.out ?_
  rintro e w1 ⟨D, c, rfl, h1, hx⟩
  have RD := hid h1
  have Xp := hid hx
  clear h1 hx
  go_wp2_with fail
  refine Calls.mono (HOB.out _) ?_
  rintro e w1 ⟨rfl, hx⟩
  replace Xp := hid (Xp.out.then hx)
  replace RD := hid (RD.out.keep hx)
  clear hx 
  go_wp2_with fail
  refine Calls.mono (HV1.out _) ?_
  rintro e w2 ⟨rfl, hx⟩
  replace Xp := hid (Xp.out.then hx)
  replace RD := hid (RD.out.keep hx)
  clear hx 
  go_wp2_with fail
  refine Calls.mono (HV2.out _) ?_
  rintro e w3 ⟨rfl, hx⟩
  replace Xp := hid (Xp.out.then hx)
  replace RD := hid (RD.out.keep hx)
  clear hx 
  go_wp2_with fail
  refine Calls.mono (HTH.out _ Xp.out) ?_
  rintro e w4 ⟨B5, c5, rfl, h1, hx⟩
  replace Xp := hid (Xp.out.then hx)
  replace RD := hid (RD.out.keep hx)
  have R5 := hid h1
  clear hx h1
  go_wp2_with fail
  refine Calls.mono (HON.out _ _ _ R5.out) ?_
  rintro e w5 ⟨B6, c6, rfl, h1, hx⟩
  replace Xp := hid (Xp.out.then hx)
  replace RD := hid (RD.out.keep hx)
  replace R5 := hid (R5.out.keep hx)
  have R6 := hid h1
  clear hx h1
  go_wp2_with fail
  refine Calls.mono (HPA.out _ _ _ R6.out) ?_
  rintro e w6 ⟨rfl, hx⟩
  replace Xp := hid (Xp.out.then hx)
  replace RD := hid (RD.out.keep hx)
  replace R5 := hid (R5.out.keep hx)
  replace R6 := hid (R6.out.keep hx)
  clear hx 
  go_wp2
  go_returns
  exact ⟨by rw [← HVV.out]; rfl, Xp.out⟩
set_option maxRecDepth 100000 in
set_option maxHeartbeats 1600000 in
theorem pageBody_01 (l : List Cel) (A : Option Addr) (n cap : Nat) (w : World) (hn : l.length = n) (hr : Rd w A (cls l)) (hok : Cel.cchk 1 l = 0) (hl : ∀ x ∈ Pge.nums (Cel.dense l), x < 18446744073709551616) (hs : ¬ (Cel.dense l).length < l.length) (ht : 0 < (Cel.dense l).length) :
    Calls Tryz.prog 16 #[.int .i64 1, .slice A n cap] w fun e w' => e = .returned (.string ⟨(Pge.bdy 1 l).toArray⟩) ∧ Ext w w' := by
  obtain ⟨g1, g2, g3⟩ := Cel.cchk_iff.1 hok
  have hle := Cel.dense_len l
  obtain ⟨dl, hdl⟩ : ∃ dl, dl = (Cel.dense l).length := ⟨_, rfl⟩
  have hbd := Pge.bdy_len hok hl
  have hwf := Pge.wrds_fit hok
  have hw1 : (Vary.wr n).length ≤ 9 := by rw [Vary.wr_len]; have := Vary.beh_le8 n; omega
  have hw2 : (Vary.wr dl).length ≤ 9 := by rw [Vary.wr_len]; have := Vary.beh_le8 dl; omega
  have hpl := Pge.pck_len hok hl
  have HD := hid (denseOf_any l A n cap w hn hr (by omega))
  have HV1 := hid (fun wx => varyBytes_any n wx (by omega))
  have HV2 := hid (fun wx => varyBytes_any dl wx (by omega))
  have HOB := hid (fun wx => oneByte_any 1 wx (by omega) (by omega))
  have hmk : Pge.mks l = [] := by unfold Pge.mks; rw [if_neg hs]
  have HNO := hid (fun D m c wx (hm : m = dl) (h : Rd wx D (cls (Cel.dense l))) => pgNumsOf_any (Cel.dense l) D m c wx (by rw [hm, hdl]) h (by omega))
  have HBB := hid (fun B m c wx (hm : m = dl) (h : Rd wx B (u64s (Pge.nums (Cel.dense l)))) (hc : m ≤ c) => bestNumberBytes_any (Pge.nums (Cel.dense l)) B m c wx (by rw [Pge.nums_len, hm, hdl]) h hc hl (by omega))
  have hdn : Pge.dns 1 l = Cod.up (Cod.nm (Pge.nums (Cel.dense l))) 1 3 := by unfold Pge.dns Pge.pck; rw [if_pos ht, if_pos rfl]
  have hpp : Pge.pck 1 (Cel.dense l) = Cod.up (Cod.nm (Pge.nums (Cel.dense l))) 1 3 := by unfold Pge.pck; rw [if_pos rfl]
  rw [← hpp] at HBB hdn
  have hby : Pge.bdy 1 l = UInt8.ofNat (1 : Int).toNat :: (Vary.wr n ++ Vary.wr dl ++ Pge.mks l ++ Pge.dns 1 l) := by unfold Pge.bdy; rw [hn, ← hdl]
  rw [hmk, hdn] at hby
  obtain ⟨X0, hX0⟩ : ∃ S : ByteArray, S = ⟨#[UInt8.ofNat (1 : Int).toNat]⟩ := ⟨_, rfl⟩
  obtain ⟨X1, hX1⟩ : ∃ S : ByteArray, S = ⟨(Vary.wr n).toArray⟩ := ⟨_, rfl⟩
  obtain ⟨X2, hX2⟩ : ∃ S : ByteArray, S = ⟨(Vary.wr dl).toArray⟩ := ⟨_, rfl⟩
  rw [← hX0] at HOB
  rw [← hX1] at HV1
  rw [← hX2] at HV2
  obtain ⟨X4, hX4⟩ : ∃ S : ByteArray, S = ⟨(Pge.pck 1 (Cel.dense l)).toArray⟩ := ⟨_, rfl⟩
  have hz4 : X4.size ≤ 2001 := by rw [hX4, str_size]; exact hpl
  rw [← hX4] at HBB
  have hz0 : X0.size = 1 := by rw [hX0]; rfl
  have hz1 : X1.size ≤ 9 := by rw [hX1, str_size]; exact hw1
  have hz2 : X2.size ≤ 9 := by rw [hX2, str_size]; exact hw2
  have hVV : X0 ++ X1 ++ X2 ++ X4 = ⟨(Pge.bdy 1 l).toArray⟩ := by
    rw [hby, hX0, hX1, hX2, hX4]
    rw [show (⟨#[UInt8.ofNat (1 : Int).toNat]⟩ : ByteArray) = ⟨[UInt8.ofNat (1 : Int).toNat].toArray⟩ from rfl]
    simp only [str_app]
    simp
  have HVV := hid hVV
  have hnI : (n : Int) ≤ 64 := by omega
  have hdI : (dl : Int) ≤ 64 := by omega
  have hdn1 : ¬ (dl : Int) < (n : Int) := by omega
  have hdn2 : (0 : Int) < (dl : Int) := by omega
  have hwn : IntKind.u64.wrap (n : Int) = (n : Int) := by rw [IntKind.wrap_u64]; omega
  have hwd : IntKind.u64.wrap (dl : Int) = (dl : Int) := by rw [IntKind.wrap_u64]; omega
  have HDL := hid hdl
  rw [← hdl] at HD
  generalize Pge.bdy 1 l = SS at *
  clear hVV hby hX0 hX1 hX2 hX4 hpp hw1 hw2 hpl hbd hwf hle g1 g2 g3 hok hl hn hr hmk hdn hdl hs ht
  go_enter Tryz.func16, Tryz.ntmps16
  go_wp2_with fail
  refine Calls.mono HD.out ?_
  rintro e w1 ⟨D, c, rfl, h1, hx⟩
  have RD := hid h1
  have Xp := hid hx
  clear h1 hx
  go_wp2_with fail
  refine Calls.mono (HOB.out _) ?_
  rintro e w1 ⟨rfl, hx⟩
  replace Xp := hid (Xp.out.then hx)
  replace RD := hid (RD.out.keep hx)
  clear hx 
  go_wp2_with fail
  refine Calls.mono (HV1.out _) ?_
  rintro e w2 ⟨rfl, hx⟩
  replace Xp := hid (Xp.out.then hx)
  replace RD := hid (RD.out.keep hx)
  clear hx 
  go_wp2_with fail
  refine Calls.mono (HV2.out _) ?_
  rintro e w3 ⟨rfl, hx⟩
  replace Xp := hid (Xp.out.then hx)
  replace RD := hid (RD.out.keep hx)
  clear hx 
  go_wp2_with fail
  refine Calls.mono (HNO.out _ _ _ _ rfl RD.out) ?_
  rintro e w4 ⟨B7, c7, rfl, h1, hx, hc⟩
  replace Xp := hid (Xp.out.then hx)
  have R7 := hid h1
  clear hx h1
  have HC7 := hid hc
  clear hc
  go_wp2_with fail
  refine Calls.mono (HBB.out _ _ _ _ rfl R7.out HC7.out) ?_
  rintro e w5 ⟨rfl, hx⟩
  replace Xp := hid (Xp.out.then hx)
  replace R7 := hid (R7.out.keep hx)
  clear hx 
  go_wp2
  go_returns
  exact ⟨by rw [← HVV.out]; rfl, Xp.out⟩
set_option maxRecDepth 100000 in
set_option maxHeartbeats 1600000 in
theorem pageBody_02 (l : List Cel) (A : Option Addr) (n cap : Nat) (w : World) (hn : l.length = n) (hr : Rd w A (cls l)) (hok : Cel.cchk 2 l = 0) (hl : ∀ x ∈ Pge.nums (Cel.dense l), x < 18446744073709551616) (hs : ¬ (Cel.dense l).length < l.length) (ht : 0 < (Cel.dense l).length) :
    Calls Tryz.prog 16 #[.int .i64 2, .slice A n cap] w fun e w' => e = .returned (.string ⟨(Pge.bdy 2 l).toArray⟩) ∧ Ext w w' := by
  obtain ⟨g1, g2, g3⟩ := Cel.cchk_iff.1 hok
  have hle := Cel.dense_len l
  obtain ⟨dl, hdl⟩ : ∃ dl, dl = (Cel.dense l).length := ⟨_, rfl⟩
  have hbd := Pge.bdy_len hok hl
  have hwf := Pge.wrds_fit hok
  have hw1 : (Vary.wr n).length ≤ 9 := by rw [Vary.wr_len]; have := Vary.beh_le8 n; omega
  have hw2 : (Vary.wr dl).length ≤ 9 := by rw [Vary.wr_len]; have := Vary.beh_le8 dl; omega
  have hpl := Pge.pck_len hok hl
  have HD := hid (denseOf_any l A n cap w hn hr (by omega))
  have HV1 := hid (fun wx => varyBytes_any n wx (by omega))
  have HV2 := hid (fun wx => varyBytes_any dl wx (by omega))
  have HOB := hid (fun wx => oneByte_any 2 wx (by omega) (by omega))
  have hmk : Pge.mks l = [] := by unfold Pge.mks; rw [if_neg hs]
  have HNO := hid (fun D m c wx (hm : m = dl) (h : Rd wx D (cls (Cel.dense l))) => pgWordsOf_any (Cel.dense l) D m c wx (by rw [hm, hdl]) h (by omega))
  have HBB := hid (fun B m c wx (hm : m = dl) (h : Rd wx B (txs (Pge.wrds (Cel.dense l)))) => bestTextBytes_any (Pge.wrds (Cel.dense l)) B m c wx (by rw [Pge.wrds_len, hm, hdl]) h hwf (by omega))
  have hdn : Pge.dns 2 l = Cod.up (Cod.tx (Pge.wrds (Cel.dense l))) 5 2 := by unfold Pge.dns Pge.pck; rw [if_pos ht, if_neg (by decide)]
  have hpp : Pge.pck 2 (Cel.dense l) = Cod.up (Cod.tx (Pge.wrds (Cel.dense l))) 5 2 := by unfold Pge.pck; rw [if_neg (by decide)]
  rw [← hpp] at HBB hdn
  have hby : Pge.bdy 2 l = UInt8.ofNat (2 : Int).toNat :: (Vary.wr n ++ Vary.wr dl ++ Pge.mks l ++ Pge.dns 2 l) := by unfold Pge.bdy; rw [hn, ← hdl]
  rw [hmk, hdn] at hby
  obtain ⟨X0, hX0⟩ : ∃ S : ByteArray, S = ⟨#[UInt8.ofNat (2 : Int).toNat]⟩ := ⟨_, rfl⟩
  obtain ⟨X1, hX1⟩ : ∃ S : ByteArray, S = ⟨(Vary.wr n).toArray⟩ := ⟨_, rfl⟩
  obtain ⟨X2, hX2⟩ : ∃ S : ByteArray, S = ⟨(Vary.wr dl).toArray⟩ := ⟨_, rfl⟩
  rw [← hX0] at HOB
  rw [← hX1] at HV1
  rw [← hX2] at HV2
  obtain ⟨X4, hX4⟩ : ∃ S : ByteArray, S = ⟨(Pge.pck 2 (Cel.dense l)).toArray⟩ := ⟨_, rfl⟩
  have hz4 : X4.size ≤ 2001 := by rw [hX4, str_size]; exact hpl
  rw [← hX4] at HBB
  have hz0 : X0.size = 1 := by rw [hX0]; rfl
  have hz1 : X1.size ≤ 9 := by rw [hX1, str_size]; exact hw1
  have hz2 : X2.size ≤ 9 := by rw [hX2, str_size]; exact hw2
  have hVV : X0 ++ X1 ++ X2 ++ X4 = ⟨(Pge.bdy 2 l).toArray⟩ := by
    rw [hby, hX0, hX1, hX2, hX4]
    rw [show (⟨#[UInt8.ofNat (2 : Int).toNat]⟩ : ByteArray) = ⟨[UInt8.ofNat (2 : Int).toNat].toArray⟩ from rfl]
    simp only [str_app]
    simp
  have HVV := hid hVV
  have hnI : (n : Int) ≤ 64 := by omega
  have hdI : (dl : Int) ≤ 64 := by omega
  have hdn1 : ¬ (dl : Int) < (n : Int) := by omega
  have hdn2 : (0 : Int) < (dl : Int) := by omega
  have hwn : IntKind.u64.wrap (n : Int) = (n : Int) := by rw [IntKind.wrap_u64]; omega
  have hwd : IntKind.u64.wrap (dl : Int) = (dl : Int) := by rw [IntKind.wrap_u64]; omega
  have HDL := hid hdl
  rw [← hdl] at HD
  generalize Pge.bdy 2 l = SS at *
  clear hVV hby hX0 hX1 hX2 hX4 hpp hw1 hw2 hpl hbd hwf hle g1 g2 g3 hok hl hn hr hmk hdn hdl hs ht
  go_enter Tryz.func16, Tryz.ntmps16
  go_wp2_with fail
  refine Calls.mono HD.out ?_
  rintro e w1 ⟨D, c, rfl, h1, hx⟩
  have RD := hid h1
  have Xp := hid hx
  clear h1 hx
  go_wp2_with fail
  refine Calls.mono (HOB.out _) ?_
  rintro e w1 ⟨rfl, hx⟩
  replace Xp := hid (Xp.out.then hx)
  replace RD := hid (RD.out.keep hx)
  clear hx 
  go_wp2_with fail
  refine Calls.mono (HV1.out _) ?_
  rintro e w2 ⟨rfl, hx⟩
  replace Xp := hid (Xp.out.then hx)
  replace RD := hid (RD.out.keep hx)
  clear hx 
  go_wp2_with fail
  refine Calls.mono (HV2.out _) ?_
  rintro e w3 ⟨rfl, hx⟩
  replace Xp := hid (Xp.out.then hx)
  replace RD := hid (RD.out.keep hx)
  clear hx 
  go_wp2_with fail
  refine Calls.mono (HNO.out _ _ _ _ rfl RD.out) ?_
  rintro e w4 ⟨B7, c7, rfl, h1, hx, hc⟩
  replace Xp := hid (Xp.out.then hx)
  have R7 := hid h1
  clear hx h1
  have HC7 := hid hc
  clear hc
  go_wp2_with fail
  refine Calls.mono (HBB.out _ _ _ _ rfl R7.out) ?_
  rintro e w5 ⟨rfl, hx⟩
  replace Xp := hid (Xp.out.then hx)
  replace R7 := hid (R7.out.keep hx)
  clear hx 
  go_wp2
  go_returns
  exact ⟨by rw [← HVV.out]; rfl, Xp.out⟩
set_option maxRecDepth 100000 in
set_option maxHeartbeats 1600000 in
theorem pageBody_00 (kind : Int) (l : List Cel) (A : Option Addr) (n cap : Nat) (w : World) (hn : l.length = n) (hr : Rd w A (cls l)) (hok : Cel.cchk kind l = 0) (hl : ∀ x ∈ Pge.nums (Cel.dense l), x < 18446744073709551616) (hs : ¬ (Cel.dense l).length < l.length) (ht : ¬ 0 < (Cel.dense l).length) :
    Calls Tryz.prog 16 #[.int .i64 kind, .slice A n cap] w fun e w' => e = .returned (.string ⟨(Pge.bdy kind l).toArray⟩) ∧ Ext w w' := by
  obtain ⟨g1, g2, g3⟩ := Cel.cchk_iff.1 hok
  have hle := Cel.dense_len l
  obtain ⟨dl, hdl⟩ : ∃ dl, dl = (Cel.dense l).length := ⟨_, rfl⟩
  have hbd := Pge.bdy_len hok hl
  have hwf := Pge.wrds_fit hok
  have hw1 : (Vary.wr n).length ≤ 9 := by rw [Vary.wr_len]; have := Vary.beh_le8 n; omega
  have hw2 : (Vary.wr dl).length ≤ 9 := by rw [Vary.wr_len]; have := Vary.beh_le8 dl; omega
  have hpl := Pge.pck_len hok hl
  have HD := hid (denseOf_any l A n cap w hn hr (by omega))
  have HV1 := hid (fun wx => varyBytes_any n wx (by omega))
  have HV2 := hid (fun wx => varyBytes_any dl wx (by omega))
  have HOB := hid (fun wx => oneByte_any kind wx (by omega) (by omega))
  have hmk : Pge.mks l = [] := by unfold Pge.mks; rw [if_neg hs]
  have hdn : Pge.dns kind l = [] := by unfold Pge.dns; rw [if_neg ht]
  have hby : Pge.bdy kind l = UInt8.ofNat (kind : Int).toNat :: (Vary.wr n ++ Vary.wr dl ++ Pge.mks l ++ Pge.dns kind l) := by unfold Pge.bdy; rw [hn, ← hdl]
  rw [hmk, hdn] at hby
  obtain ⟨X0, hX0⟩ : ∃ S : ByteArray, S = ⟨#[UInt8.ofNat (kind : Int).toNat]⟩ := ⟨_, rfl⟩
  obtain ⟨X1, hX1⟩ : ∃ S : ByteArray, S = ⟨(Vary.wr n).toArray⟩ := ⟨_, rfl⟩
  obtain ⟨X2, hX2⟩ : ∃ S : ByteArray, S = ⟨(Vary.wr dl).toArray⟩ := ⟨_, rfl⟩
  rw [← hX0] at HOB
  rw [← hX1] at HV1
  rw [← hX2] at HV2
  have hz0 : X0.size = 1 := by rw [hX0]; rfl
  have hz1 : X1.size ≤ 9 := by rw [hX1, str_size]; exact hw1
  have hz2 : X2.size ≤ 9 := by rw [hX2, str_size]; exact hw2
  have hVV : X0 ++ X1 ++ X2 = ⟨(Pge.bdy kind l).toArray⟩ := by
    rw [hby, hX0, hX1, hX2]
    rw [show (⟨#[UInt8.ofNat (kind : Int).toNat]⟩ : ByteArray) = ⟨[UInt8.ofNat (kind : Int).toNat].toArray⟩ from rfl]
    simp only [str_app]
    simp
  have HVV := hid hVV
  have hnI : (n : Int) ≤ 64 := by omega
  have hdI : (dl : Int) ≤ 64 := by omega
  have hdn1 : ¬ (dl : Int) < (n : Int) := by omega
  have hdn2 : ¬ (0 : Int) < (dl : Int) := by omega
  have hwn : IntKind.u64.wrap (n : Int) = (n : Int) := by rw [IntKind.wrap_u64]; omega
  have hwd : IntKind.u64.wrap (dl : Int) = (dl : Int) := by rw [IntKind.wrap_u64]; omega
  have HDL := hid hdl
  rw [← hdl] at HD
  generalize Pge.bdy kind l = SS at *
  clear hVV hby hX0 hX1 hX2 hw1 hw2 hpl hbd hwf hle g1 g2 g3 hok hl hn hr hmk hdn hdl hs ht
  go_enter Tryz.func16, Tryz.ntmps16
  go_wp2_with fail
  refine Calls.mono HD.out ?_
  rintro e w1 ⟨D, c, rfl, h1, hx⟩
  have RD := hid h1
  have Xp := hid hx
  clear h1 hx
  go_wp2_with fail
  refine Calls.mono (HOB.out _) ?_
  rintro e w1 ⟨rfl, hx⟩
  replace Xp := hid (Xp.out.then hx)
  replace RD := hid (RD.out.keep hx)
  clear hx 
  go_wp2_with fail
  refine Calls.mono (HV1.out _) ?_
  rintro e w2 ⟨rfl, hx⟩
  replace Xp := hid (Xp.out.then hx)
  replace RD := hid (RD.out.keep hx)
  clear hx 
  go_wp2_with fail
  refine Calls.mono (HV2.out _) ?_
  rintro e w3 ⟨rfl, hx⟩
  replace Xp := hid (Xp.out.then hx)
  replace RD := hid (RD.out.keep hx)
  clear hx 
  go_wp2
  go_returns
  exact ⟨by rw [← HVV.out]; rfl, Xp.out⟩
theorem pageBody_any (kind : Int) (l : List Cel) (A : Option Addr) (n cap : Nat) (w : World) (hn : l.length = n) (hr : Rd w A (cls l)) (hok : Cel.cchk kind l = 0) (hl : ∀ x ∈ Pge.nums (Cel.dense l), x < 18446744073709551616) :
    Calls Tryz.prog 16 #[.int .i64 kind, .slice A n cap] w fun e w' => e = .returned (.string ⟨(Pge.bdy kind l).toArray⟩) ∧ Ext w w' := by
  have hk := (Cel.cchk_iff.1 hok).1
  by_cases hs : (Cel.dense l).length < l.length
  · by_cases ht : 0 < (Cel.dense l).length
    · rcases hk with rfl | rfl
      · exact pageBody_11 l A n cap w hn hr hok hl hs ht
      · exact pageBody_12 l A n cap w hn hr hok hl hs ht
    · exact pageBody_10 kind l A n cap w hn hr hok hl hs ht
  · by_cases ht : 0 < (Cel.dense l).length
    · rcases hk with rfl | rfl
      · exact pageBody_01 l A n cap w hn hr hok hl hs ht
      · exact pageBody_02 l A n cap w hn hr hok hl hs ht
    · exact pageBody_00 kind l A n cap w hn hr hok hl hs ht
theorem pageBytes_any (kind : Int) (l : List Cel) (A : Option Addr) (n cap : Nat) (w : World) (hn : l.length = n) (hr : Rd w A (cls l)) (hl : ∀ x ∈ Pge.nums l, x < 18446744073709551616) (hnl : n ≤ 140737488355328) :
    Calls Tryz.prog 10 #[.int .i64 kind, .slice A n cap] w fun e w' => e = .returned (.tuple #[.string ⟨(Pge.wrt kind l).1.toArray⟩, .int .i64 ((Pge.wrt kind l).2 : Nat)]) ∧ Ext w w' := by
  have hl2 : ∀ x ∈ Pge.nums (Cel.dense l), x < 18446744073709551616 := fun x hx => by
    obtain ⟨c, hc, rfl⟩ := List.mem_map.1 hx
    exact hl _ (List.mem_map.2 ⟨c, (List.mem_filter.1 hc).1, rfl⟩)
  have HCH := hid (cellsCheck_any kind l A n cap w hn hr hnl)
  unfold Pge.wrt
  by_cases hok : Cel.cchk kind l = 0
  · rw [if_neg (by simp [hok])]
    have HPB := hid (fun wx (hx : Ext w wx) => pageBody_any kind l A n cap wx hn (hr.keep hx) hok hl2)
    have hbd := Pge.bdy_len hok hl2
    have HSE := hid (fun wx => sealedOf_any ⟨(Pge.bdy kind l).toArray⟩ wx (by rw [str_size]; omega))
    rw [show (⟨(Pge.bdy kind l).toArray⟩ : ByteArray).data.toList = Pge.bdy kind l from rfl] at HSE
    rw [hok] at HCH
    generalize (⟨(Pge.bdy kind l).toArray⟩ : ByteArray) = SB at *
    generalize Pge.sld (Pge.bdy kind l) = SS at *
    clear hn hr hl hl2 hnl hok hbd
    go_enter Tryz.func10, Tryz.ntmps10
    go_wp2_with fail
    refine Calls.mono HCH.out ?_
    rintro e w1 ⟨rfl, hx⟩
    have Xp := hid hx
    clear hx
    go_wp2_with fail
    refine Calls.mono (HPB.out _ Xp.out) ?_
    rintro e w2 ⟨rfl, hx⟩
    replace Xp := hid (Xp.out.then hx)
    clear hx
    go_wp2_with fail
    refine Calls.mono (HSE.out _) ?_
    rintro e w3 ⟨rfl, hx⟩
    replace Xp := hid (Xp.out.then hx)
    clear hx
    go_wp2
    go_returns
    exact ⟨rfl, Xp.out⟩
  · rw [if_pos hok]
    obtain ⟨er, her⟩ : ∃ er, er = Cel.cchk kind l := ⟨_, rfl⟩
    rw [← her] at HCH hok ⊢
    have h3 : ((er : Int) != 0) = true := by rw [bne_iff_ne]; omega
    have h4 : ((er : Int) == 0) = false := by rw [beq_eq_false_iff_ne]; omega
    clear hn hr hl hl2 hnl hok her
    go_enter Tryz.func10, Tryz.ntmps10
    go_wp2_with fail
    refine Calls.mono HCH.out ?_
    rintro e w1 ⟨rfl, hx⟩
    have Xp := hid hx
    clear hx
    go_wp2
    go_returns
    exact ⟨rfl, Xp.out⟩
end Go.Proofs.YthgnipangcmanaaGreat
end
section
namespace Hy.Pat
open Go
theorem onS_tl (w : Nat) : ∀ (Q P : List Nat) (last : Int) (r : List UInt8), P.length + Q.length ≤ 64 → last < (P.length : Int) → (∀ x ∈ Q, x < 18446744073709551616) →
    onS w (cnt w Q) (P ++ inn w Q) last (tl w P.length Q ++ r) = (0, P ++ Q, r)
  | [], P, last, r, _, _, _ => by simp [cnt, inn, tl, onS]
  | x :: Q, P, last, r, hl, hla, hx => by
    have hxx := hx x (by simp)
    have hQ : ∀ y ∈ Q, y < 18446744073709551616 := fun y hy => hx y (by simp [hy])
    rw [List.length_cons] at hl
    have e1 : P ++ x :: Q = (P ++ [x]) ++ Q := by simp
    have e2 : (P ++ [x]).length = P.length + 1 := by simp
    by_cases ho : w < Lib.bitLen x
    · have hc : cnt w (x :: Q) = cnt w Q + 1 := by unfold cnt; rw [List.map_cons, List.sum_cons, if_pos ho]; omega
      have ht : tl w P.length (x :: Q) ++ r = UInt8.ofNat P.length :: (Vary.wr x ++ (tl w (P.length + 1) Q ++ r)) := by simp [tl, ho]
      have hi : inn w (x :: Q) = 0 :: inn w Q := by simp [inn, ho]
      have hP : (UInt8.ofNat P.length).toNat = P.length := by rw [UInt8.toNat_ofNat']; omega
      have hrd := Vary.rd_wr x (tl w (P.length + 1) Q ++ r) hxx
      have hE : onE w (P ++ inn w (x :: Q)) last (tl w P.length (x :: Q) ++ r) = (0, P.length, (P ++ [x]) ++ inn w Q, tl w (P.length + 1) Q ++ r) := by
        rw [ht, onE_ok (n := x) (k := Vary.beh x + 1) (by rw [hP, List.length_append, inn_len, List.length_cons]; omega) (by rw [hP]; omega) (by rw [hP, hi, List.getD_eq_getElem?_getD, List.getElem?_append_right (Nat.le_refl _), Nat.sub_self]; rfl) hrd (by omega), hP, hi,
          List.set_append_right _ _ (Nat.le_refl _), Nat.sub_self, List.set_cons_zero, ← Vary.wr_len, List.drop_left]
        simp
      have ih := onS_tl w Q (P ++ [x]) (P.length : Int) r (by rw [e2]; omega) (by rw [e2]; omega) hQ
      rw [hc, onS_succ, hE, if_neg (by simp)]
      rw [e2] at ih
      rw [ih, e1]
    · have hc : cnt w (x :: Q) = cnt w Q := by unfold cnt; rw [List.map_cons, List.sum_cons, if_neg ho]; omega
      have ht : tl w P.length (x :: Q) = tl w (P.length + 1) Q := by simp [tl, ho]
      have hi : inn w (x :: Q) = x :: inn w Q := by simp [inn, ho]
      have ih := onS_tl w Q (P ++ [x]) last r (by rw [e2]; omega) (by rw [e2]; omega) hQ
      rw [e2] at ih
      rw [hc, ht, hi, show P ++ x :: inn w Q = (P ++ [x]) ++ inn w Q by simp, ih, e1]
theorem add_mor (l : List Nat) (hl : ∀ x ∈ l, x < 18446744073709551616) : add (bas l) (mor l) = (l, 0) := by
  have hb := bas_le l
  have e : (mor l).map (· + bas l) = l := by
    unfold mor
    rw [List.map_map]
    conv => rhs; rw [← List.map_id l]
    exact List.map_congr_left fun x hx => by have := hb x hx; show x - bas l + bas l = x; omega
  rw [add_all, e]
  intro i hi
  obtain ⟨y, hy, h⟩ := List.mem_map.1 (List.getElem_mem hi)
  rw [List.getD_eq_getElem?_getD, List.getElem?_eq_getElem hi, Option.getD_some, ← h]
  have := hb y hy
  have := hl y hy
  show y - bas l + bas l < _
  omega
theorem rdP_bys (l : List Nat) (h : l.length ≤ 64) (hl : ∀ x ∈ l, x < 18446744073709551616) : rdP (bys l) (l.length : Int) = (l, 0) := by
  have hml := mor_lt l hl
  have hmn := mor_len l
  have hwb := bst_le (mor l) 64
  have hcl := cnt_le (bst (mor l) 64) (mor l)
  have hB := bys_eq l
  have hin := inn_len (bst (mor l) 64) (mor l)
  have hilt := inn_lt (bst (mor l) 64) (mor l) hwb hml
  have hS := onS_tl (bst (mor l) 64) (mor l) [] (-1) [] (by simp; omega) (by simp) hml
  simp only [List.nil_append, List.length_nil, List.append_nil] at hS
  have hA := add_mor l hl
  have hbb := bas_lt l hl
  generalize bst (mor l) 64 = wd at *
  generalize mor l = M at *
  generalize hI : inn wd M = I at *
  have hpl := Bits.packed_len I wd
  have hchk := Bits.chk_packed (l := I) (w := wd) hwb (by omega) hilt
  have hunp := Bits.unp_packed I wd hilt
  have hwu : (UInt8.ofNat wd).toNat = wd := by rw [UInt8.toNat_ofNat']; omega
  have hcu : (UInt8.ofNat (cnt wd M)).toNat = cnt wd M := by rw [UInt8.toNat_ofNat']; omega
  have hrd := Vary.rd_wr (bas l) ([UInt8.ofNat wd, UInt8.ofNat (cnt wd M)] ++ (Bits.packed I wd ++ tl wd 0 M)) hbb
  rw [← Vary.wr_len] at hrd
  have hB2 : bys l = Vary.wr (bas l) ++ ([UInt8.ofNat wd, UInt8.ofNat (cnt wd M)] ++ (Bits.packed I wd ++ tl wd 0 M)) := by rw [hB]; simp
  rw [hB2]
  have hIn : I.length = l.length := by rw [hin, hmn]
  have hfr : fr (Vary.wr (bas l) ++ ([UInt8.ofNat wd, UInt8.ofNat (cnt wd M)] ++ (Bits.packed I wd ++ tl wd 0 M))) l.length = (0, bas l, M) := by
    rw [fr_ok hrd, List.drop_left]
    show fr1 _ _ (UInt8.ofNat wd :: UInt8.ofNat (cnt wd M) :: (Bits.packed I wd ++ tl wd 0 M)) = _
    have hsz : Bits.size l.length wd = (Bits.packed I wd).length := by rw [hpl, hIn]
    rw [fr1_cons, fr2_ok (by omega) (by rw [hwu, hsz, List.length_append]; omega) (by rw [hwu, hsz, List.take_left, ← hIn]; exact hchk)]
    rw [hwu, hcu, hsz, List.take_left, List.drop_left, ← hIn, hunp, fr3_ok (by rw [hS]) (by rw [hS]), hS]
  rw [rdP_ok h (by rw [hfr]), hfr]
  exact hA
end Hy.Pat
end
section
namespace Hy.Cod
open Go
theorem ofNat_small {k : Nat} (h : k < 256) : (UInt8.ofNat k).toNat = k := by simp; omega
theorem wde_rd {rd : Tx → Nat → List Nat × Nat} {k : Nat} {t : Tx} {l : List Nat} (hk : k < 256) (h : rd t k = (l, 0)) (hw : Bits.width l = k) : wde rd (UInt8.ofNat k :: t) = (l, 0) := by
  have h1 : (UInt8.ofNat k).toNat = k := ofNat_small hk
  rw [wde_ok (by rw [h1, h]) (by rw [h1, h]; exact hw), h1, h]
theorem rnm_tg (l : List Nat) (k : Nat) (hn : l.length ≤ 64) (hl : ∀ x ∈ l, x < 18446744073709551616) (h1 : 1 ≤ k) (h4 : k ≤ 4) : rnm (tg (nm l) k) l.length = (l, 0) := by
  obtain ⟨w1, w2⟩ := width_fit l hl
  unfold tg
  rw [rnm_cons (by omega) (by omega), ofNat_small (by omega)]
  obtain rfl | rfl | rfl | rfl : k = 1 ∨ k = 2 ∨ k = 3 ∨ k = 4 := by omega
  · rw [if_pos rfl, nm1]
    refine wde_rd (by omega) ?_ rfl
    have hc := Bits.chk_packed w1 hn w2
    show (Bits.up _ _ _, Bits.chk _ _ _) = _
    rw [hc, Bits.up_ok _ _ _ hc, Int.toNat_natCast, Int.toNat_natCast, Bits.unp_packed l _ w2]
  · rw [if_neg (by decide), if_pos rfl, nm2]
    refine wde_rd (by omega) ?_ rfl
    have := Hyb.rdl_raw w1 hn w2 []
    rw [List.append_nil, if_pos rfl] at this
    exact this
  · rw [if_neg (by decide), if_neg (by decide), if_pos rfl, nm3]
    exact Dlt.rds_wrt l hn hl
  · rw [if_neg (by decide), if_neg (by decide), if_neg (by decide), if_pos rfl, nm4]
    exact Pat.rdP_bys l hn hl
theorem rnm_up (l : List Nat) (hn : l.length ≤ 64) (hl : ∀ x ∈ l, x < 18446744073709551616) : rnm (up (nm l) 1 3) l.length = (l, 0) := by
  obtain ⟨j, hj, e⟩ := up_one (nm l) 1 3
  rw [e]; exact rnm_tg l _ hn hl (by omega) (by omega)
theorem rbk_bok (l : List Tx) (hn : l.length ≤ 64) (hl : ∀ s ∈ l, s.length ≤ 16) : rbk (bok l) l.length = (l, 0) := by
  have hb := Dct.bk_len l
  have hcf := cds_fit l hn
  have hcl := Dct.cds_len l
  have hlw := lw_le (n := (Dct.bk l).length) (by omega)
  have hrd : Vary.rd (bok l) = ((Dct.bk l).length, Vary.beh (Dct.bk l).length + 1, 0) := by rw [bok_eq, List.append_assoc]; exact Vary.rd_wr _ _ (by omega)
  have hdr : (bok l).drop (Vary.beh (Dct.bk l).length + 1) = Bits.packed (Dct.cds l) (lw (Dct.bk l).length) ++ Front.bytes (Dct.bk l) := by rw [bok_eq, List.append_assoc]; exact List.drop_left' (Vary.wr_len _)
  have hpl : (Bits.packed (Dct.cds l) (lw (Dct.bk l).length)).length = Bits.size l.length (lw (Dct.bk l).length) := by rw [Bits.packed_len, hcl]
  have hck := Bits.chk_packed (l := Dct.cds l) (w := lw (Dct.bk l).length) (by omega) (by rw [hcl]; exact hn) hcf
  rw [hcl] at hck
  have htk : (Bits.packed (Dct.cds l) (lw (Dct.bk l).length) ++ Front.bytes (Dct.bk l)).take (Bits.size l.length (lw (Dct.bk l).length)) = Bits.packed (Dct.cds l) (lw (Dct.bk l).length) := List.take_left' hpl
  have hdp : (Bits.packed (Dct.cds l) (lw (Dct.bk l).length) ++ Front.bytes (Dct.bk l)).drop (Bits.size l.length (lw (Dct.bk l).length)) = Front.bytes (Dct.bk l) := List.drop_left' hpl
  have hfr := Front.rdl_bytes (Dct.bk l) (by omega) ((Front.fitB_iff _).2 (bk_fit l hl))
  rw [rbk_ok hrd (by omega) hdr rfl (by rw [List.length_append, hpl]; omega) (by rw [htk]; exact hck) (by rw [hdp, hfr]), htk, hdp, hfr, Bits.up_ok _ _ _ hck, Int.toNat_natCast, Int.toNat_natCast]
  have := Bits.unp_packed (Dct.cds l) (lw (Dct.bk l).length) hcf
  rw [hcl] at this
  rw [this]
  exact Dct.txt_back l (mny_of hn hl)
theorem rtx_tg (l : List Tx) (k : Nat) (hn : l.length ≤ 64) (hl : ∀ s ∈ l, s.length ≤ 16) (h1 : 5 ≤ k) (h4 : k ≤ 7) : rtx (tg (tx l) k) l.length = (l, 0) := by
  unfold tg
  rw [rtx_cons (by omega) (by omega), ofNat_small (by omega), Int.toNat_natCast]
  obtain rfl | rfl | rfl : k = 5 ∨ k = 6 ∨ k = 7 := by omega
  · rw [if_pos rfl, tx5, rpl_pln l [] hl, List.nil_append]
  · rw [if_neg (by decide), if_pos rfl, tx6]
    exact rbk_bok l hn hl
  · rw [if_neg (by decide), if_neg (by decide), if_pos rfl, tx7]
    exact Front.rdl_bytes l hn ((Front.fitB_iff _).2 hl)
theorem rtx_up (l : List Tx) (hn : l.length ≤ 64) (hl : ∀ s ∈ l, s.length ≤ 16) : rtx (up (tx l) 5 2) l.length = (l, 0) := by
  obtain ⟨j, hj, e⟩ := up_one (tx l) 5 2
  rw [e]; exact rtx_tg l _ hn hl (by omega) (by omega)
end Hy.Cod
end
section
namespace Hy.Cel
theorem cnt_there (l : List Cel) : (thereL l).count true = (dense l).length := by
  induction l with
  | nil => rfl
  | cons c l ih =>
    unfold thereL dense at *
    by_cases h : c.1 = 0
    · simp [h] at ih ⊢; exact ih
    · simp [h] at ih ⊢; exact ih
theorem jat_back {l : List Cel} (hl : ∀ c ∈ l, ok c) (i : Nat) (h : i < l.length) : jat (thereL l) (dense l) i = l[i] := by
  have hm : i < (thereL l).length := by rw [thereL_len]; exact h
  have hv : (thereL l)[i] = decide (l[i].1 ≠ 0) := by unfold thereL; simp
  have hc : ((thereL l).take i).count true = (dense (l.take i)).length := by rw [← cnt_there]; unfold thereL; rw [List.map_take]
  by_cases h0 : l[i].1 = 0
  · rw [jat_no _ _ i hm (by rw [hv]; simp [h0])]
    exact (hl _ (List.getElem_mem h) h0).symm
  · have hsp : dense l = dense (l.take i) ++ ([l[i]] ++ dense (l.drop (i + 1))) := by
      have e : l = l.take i ++ (l[i] :: l.drop (i + 1)) := by rw [← List.drop_eq_getElem_cons h, List.take_append_drop]
      have hd : dense (l[i] :: l.drop (i + 1)) = [l[i]] ++ dense (l.drop (i + 1)) := by unfold dense; rw [List.filter_cons_of_pos (by simp [h0])]; rfl
      rw [← hd, ← dense_app, ← e]
    unfold jat
    rw [List.getD_eq_getElem?_getD, List.getElem?_eq_getElem hm, Option.getD_some, if_pos (by rw [hv]; simp [h0]), hc, List.getD_eq_getElem?_getD, hsp, List.getElem?_append_right (Nat.le_refl _)]
    simp
theorem jn_back {l : List Cel} (hl : ∀ c ∈ l, ok c) : jn (thereL l) (dense l) = l := by
  unfold jn
  apply List.ext_getElem
  · simp [thereL_len]
  · intro i h1 h2
    simp only [List.getElem_map, List.getElem_range]
    exact jat_back hl i h2
theorem back {kind : Int} {l : List Cel} (h : cchk kind l = 0) : jchk kind (thereL l) (dense l) = 0 ∧ jout kind (thereL l) (dense l) = l := by
  have hok := cchk_ok h
  obtain ⟨h1, h2, h3⟩ := cchk_iff.1 h
  have c1 : cchk kind (dense l) = 0 := cchk_iff.2 ⟨h1, Nat.le_trans (dense_len l) h2, fun c hc => h3 c ((List.mem_filter.1 hc).1)⟩
  have c2 : anyNull (dense l) = false := by
    unfold anyNull dense
    rw [List.any_eq_false]
    intro c hc
    have := (List.mem_filter.1 hc).2
    simpa using this
  have hj : jchk kind (thereL l) (dense l) = 0 := by
    unfold jchk
    rw [if_neg (by simp [c1]), if_neg (by simp [c2]), if_neg (by rw [thereL_len]; omega), if_neg (by rw [cnt_there]; simp)]
  exact ⟨hj, by unfold jout; rw [if_pos hj, jn_back hok]⟩
end Hy.Cel
end
section
namespace Hy.Pge
open Go Hy.Cel
theorem rd_seal (b r : Tx) (hb : b.length < 18446744073709551616) : Vary.rd (sld b ++ r) = (b.length, Vary.beh b.length + 1, 0) := by
  unfold sld
  rw [List.append_assoc, List.append_assoc]
  exact Vary.rd_wr _ _ hb
theorem drop_seal (b r : Tx) : (sld b ++ r).drop (Vary.beh b.length + 1) = b ++ (sl4 b ++ r) := by
  unfold sld
  rw [List.append_assoc, List.append_assoc]
  exact List.drop_left' (Vary.wr_len _)
theorem uns_seal (b r : Tx) (hb : b.length < 18446744073709551616) : uns (sld b ++ r) = (b, (sld b).length, 0) := by
  have h4 := sl4_len b
  rw [uns_ok (rd_seal b r hb) (drop_seal b r) (by rw [List.length_append, List.length_append]; omega) (by rw [List.take_left' rfl, List.drop_left' rfl, List.take_left' h4, unbe4]), List.take_left' rfl, seal_len]
theorem count_repl (l : List Cel) (h : ¬ (dense l).length < l.length) : thereL l = List.replicate l.length true := by
  have hle := dense_len l
  have hc := cnt_there l
  have h2 : (thereL l).count true = (thereL l).length := by rw [hc, thereL_len]; omega
  rw [List.count_eq_length] at h2
  rw [List.eq_replicate_iff]
  exact ⟨thereL_len l, fun b hb => (h2 b hb).symm⟩
theorem marks_ones (l : List Bool) : Mrk.marks (Mrk.ones l) = l := by
  unfold Mrk.marks Mrk.ones
  rw [List.map_map]
  conv => rhs; rw [← List.map_id l]
  exact List.map_congr_left fun b _ => by cases b <;> rfl
theorem mk_mks (l : List Cel) (r : Tx) (hn : l.length ≤ 64) : mk l.length (dense l).length (mks l ++ r) = (thereL l, r, 0) := by
  have hle := dense_len l
  by_cases h : (dense l).length < l.length
  · have hw := ones_lt2 (thereL l)
    have hol : (Mrk.ones (thereL l)).length = l.length := by rw [Mrk.ones_len, thereL_len]
    have hpl : (Bits.packed (Mrk.ones (thereL l)) 1).length = Bits.size l.length 1 := by rw [Bits.packed_len, hol]
    have hck := Bits.chk_packed (l := Mrk.ones (thereL l)) (w := 1) (by decide) (by rw [hol]; exact hn) hw
    rw [hol] at hck
    have hup : Bits.up (Bits.packed (Mrk.ones (thereL l)) 1) l.length 1 = Mrk.ones (thereL l) := by
      have := Bits.unp_packed (Mrk.ones (thereL l)) 1 hw
      rw [hol] at this
      show Bits.up (Bits.packed (Mrk.ones (thereL l)) 1) ((l.length : Nat) : Int) ((1 : Nat) : Int) = _
      rw [Bits.up_ok _ _ _ hck, Int.toNat_natCast]; exact this
    have hm : mks l = Bits.packed (Mrk.ones (thereL l)) 1 := by unfold mks; rw [if_pos h]
    have htk : (mks l ++ r).take (Bits.size l.length 1) = Bits.packed (Mrk.ones (thereL l)) 1 := by rw [hm]; exact List.take_left' hpl
    have hdp : (mks l ++ r).drop (Bits.size l.length 1) = r := by rw [hm]; exact List.drop_left' hpl
    rw [mk_ok (by omega) rfl (by rw [hm, List.length_append, hpl]; omega) (by rw [htk]; exact hck) (by rw [htk, hup, marks_ones, cnt_there]), htk, hdp, hup, marks_ones]
  · have hm : mks l = [] := by unfold mks; rw [if_neg h]
    rw [hm, List.nil_append, show (dense l).length = l.length by omega, mk_all, count_repl l h]
theorem alone1 {kind : Int} {c : Cel} (h : alone kind c = 0) (h0 : c.1 ≠ 0) : c.1 = kind ∧ (kind = 1 → c = nCel c.2.1) ∧ (kind = 2 → c = tCel c.2.2.data.toList) := by
  obtain ⟨k, n, s⟩ := c
  unfold alone at h
  simp only at h h0
  by_cases h1 : k ≠ 0 ∧ k ≠ kind
  · rw [if_pos h1] at h; cases h
  · rw [if_neg h1] at h
    by_cases h2 : (k ≠ 1 ∧ n ≠ 0) ∨ (k ≠ 2 ∧ s.size ≠ 0)
    · rw [if_pos h2] at h; cases h
    · have hk : k = kind := by
        refine Decidable.byContradiction fun h3 => h1 ⟨h0, h3⟩
      refine ⟨hk, fun e => ?_, fun e => ?_⟩
      · have hs : s.size = 0 := by
          refine Decidable.byContradiction fun h3 => h2 (.inr ⟨by omega, h3⟩)
        have : s = ⟨#[]⟩ := by apply ByteArray.ext; exact Array.eq_empty_of_size_eq_zero hs
        subst this
        rw [hk, e]; rfl
      · have hn : n = 0 := by
          refine Decidable.byContradiction fun h3 => h2 (.inl ⟨by omega, h3⟩)
        subst hn
        rw [hk, e]; rfl
theorem dn_dns {kind : Int} {l : List Cel} (h : cchk kind l = 0) (hl : ∀ x ∈ nums (dense l), x < 18446744073709551616) : dn kind.toNat (dense l).length (dns kind l) = (dense l, 0) := by
  obtain ⟨h1, h2, h3⟩ := cchk_iff.1 h
  have hle := dense_len l
  unfold dns
  by_cases h0 : (dense l).length = 0
  · rw [if_neg (by omega), h0, dn_nil, List.length_eq_zero_iff.1 h0]
  · rw [if_pos (by omega)]
    have ha : ∀ c ∈ dense l, c.1 = kind ∧ (kind = 1 → c = nCel c.2.1) ∧ (kind = 2 → c = tCel c.2.2.data.toList) := fun c hc =>
      alone1 (h3 c (List.mem_filter.1 hc).1) (by have := (List.mem_filter.1 hc).2; simpa using this)
    rcases h1 with rfl | rfl
    · have hr := Cod.rnm_up (nums (dense l)) (by rw [nums_len]; omega) hl
      rw [nums_len] at hr
      unfold pck
      rw [if_pos rfl, show (1 : Int).toNat = 1 from rfl, dn_num h0, hr]
      congr 1
      unfold nums
      rw [List.map_map]
      conv => rhs; rw [← List.map_id (dense l)]
      exact List.map_congr_left fun c hc => ((ha c hc).2.1 rfl).symm
    · have hr := Cod.rtx_up (wrds (dense l)) (by rw [wrds_len]; omega) (wrds_fit h)
      rw [wrds_len] at hr
      unfold pck
      rw [if_neg (by decide), show (2 : Int).toNat = 2 from rfl, dn_txt h0, hr]
      congr 1
      unfold wrds
      rw [List.map_map]
      conv => rhs; rw [← List.map_id (dense l)]
      exact List.map_congr_left fun c hc => ((ha c hc).2.2 rfl).symm
theorem cel_bdy {kind : Int} {l : List Cel} (h : cchk kind l = 0) (hl : ∀ x ∈ nums (dense l), x < 18446744073709551616) : cel (bdy kind l) = (kind.toNat, l, 0) := by
  obtain ⟨h1, h2, h3⟩ := cchk_iff.1 h
  have hle := dense_len l
  have hk : (UInt8.ofNat kind.toNat).toNat = kind.toNat := by rcases h1 with rfl | rfl <;> decide
  have hd1 : Vary.rd (Vary.wr l.length ++ Vary.wr (dense l).length ++ mks l ++ dns kind l) = (l.length, Vary.beh l.length + 1, 0) := by
    rw [List.append_assoc, List.append_assoc]; exact Vary.rd_wr _ _ (by omega)
  have hu : (Vary.wr l.length ++ Vary.wr (dense l).length ++ mks l ++ dns kind l).drop (Vary.beh l.length + 1) = Vary.wr (dense l).length ++ (mks l ++ dns kind l) := by
    rw [List.append_assoc, List.append_assoc]; exact List.drop_left' (Vary.wr_len _)
  have hd2 : Vary.rd (Vary.wr (dense l).length ++ (mks l ++ dns kind l)) = ((dense l).length, Vary.beh (dense l).length + 1, 0) := Vary.rd_wr _ _ (by omega)
  have hhd : hd (bdy kind l) = (kind.toNat, l.length, (dense l).length, mks l ++ dns kind l, 0) := by
    unfold bdy
    rw [hd_ok (by rw [hk]; rcases h1 with rfl | rfl <;> decide) hd1 (by omega) hu hd2 (by omega), hk, List.drop_left' (Vary.wr_len _)]
  have hki : ((kind.toNat : Nat) : Int) = kind := by rcases h1 with rfl | rfl <;> rfl
  rw [cel_end hhd (mk_mks l _ h2) (dn_dns h hl), hki, (back h).1, (back h).2]
theorem pgr_seal {kind : Int} {l : List Cel} (r : Tx) (h : cchk kind l = 0) (hl : ∀ x ∈ nums (dense l), x < 18446744073709551616) : pgr (sld (bdy kind l) ++ r) = (kind.toNat, l, (sld (bdy kind l)).length, 0) := by
  have hb := bdy_len h hl
  exact pgr_ok (uns_seal _ r (by omega)) (cel_bdy h hl)
theorem uns_hurt (b : Tx) (hb : b.length < 18446744073709551616) (at' : Nat) (c : UInt8) (h1 : Vary.beh b.length + 1 ≤ at') (h2 : at' < (sld b).length) (h3 : (sld b)[at'] ≠ c) :
    uns ((sld b).take at' ++ c :: (sld b).drop (at' + 1)) = ([], 0, 9) := by
  have hw := Vary.wr_len b.length
  have h4 := sl4_len b
  have hsl := seal_len b
  obtain ⟨j, rfl⟩ : ∃ j, at' = Vary.beh b.length + 1 + j := ⟨at' - (Vary.beh b.length + 1), by omega⟩
  have hse : sld b = Vary.wr b.length ++ (b ++ sl4 b) := by unfold sld; rw [List.append_assoc]
  obtain ⟨R, hR⟩ : ∃ R, R = b ++ sl4 b := ⟨_, rfl⟩
  have hRl : R.length = b.length + 4 := by rw [hR, List.length_append, h4]
  have hjR : j < R.length := by omega
  have htk : (sld b).take (Vary.beh b.length + 1 + j) = Vary.wr b.length ++ R.take j := by
    rw [hse, ← hR, List.take_append, hw, List.take_of_length_le (by rw [hw]; omega), Nat.add_sub_cancel_left]
  have hdp : (sld b).drop (Vary.beh b.length + 1 + j + 1) = R.drop (j + 1) := by
    rw [hse, ← hR, List.drop_append, hw, List.drop_eq_nil_of_le (by rw [hw]; omega), List.nil_append]
    congr 1; omega
  have hat : (sld b)[Vary.beh b.length + 1 + j] = R[j] := by
    have : (sld b)[Vary.beh b.length + 1 + j]? = R[j]? := by
      rw [hse, ← hR, List.getElem?_append_right (by rw [hw]; omega), hw, Nat.add_sub_cancel_left]
    rw [List.getElem?_eq_getElem h2, List.getElem?_eq_getElem hjR] at this
    injection this
  rw [hat] at h3
  rw [htk, hdp, List.append_assoc]
  have hrd : Vary.rd (Vary.wr b.length ++ (R.take j ++ c :: R.drop (j + 1))) = (b.length, Vary.beh b.length + 1, 0) := Vary.rd_wr _ _ hb
  have hdr : (Vary.wr b.length ++ (R.take j ++ c :: R.drop (j + 1))).drop (Vary.beh b.length + 1) = R.take j ++ c :: R.drop (j + 1) := List.drop_left' hw
  refine uns_sum hrd hdr (by rw [List.length_append, List.length_cons, List.length_take, List.length_drop]; omega) ?_
  by_cases hj : j < b.length
  · have e1 : R.take j = b.take j := by rw [hR, List.take_append_of_le_length (by omega)]
    have e2 : R.drop (j + 1) = b.drop (j + 1) ++ sl4 b := by rw [hR, List.drop_append_of_le_length (by omega)]
    have e3 : R[j] = b[j] := by
      have : R[j]? = b[j]? := by rw [hR, List.getElem?_append_left hj]
      rw [List.getElem?_eq_getElem hjR, List.getElem?_eq_getElem hj] at this
      injection this
    have e4 : R.take j ++ c :: R.drop (j + 1) = (b.take j ++ [c] ++ b.drop (j + 1)) ++ sl4 b := by rw [e1, e2]; simp
    have e5 : (b.take j ++ [c] ++ b.drop (j + 1)).length = b.length := by
      rw [List.length_append, List.length_append, List.length_take, List.length_drop, List.length_cons, List.length_nil]; omega
    rw [e4, List.take_left' e5, List.drop_left' e5, List.take_of_length_le (l := sl4 b) (by omega), unbe4]
    have e6 : b = b.take j ++ [b[j]] ++ b.drop (j + 1) := by
      rw [List.append_assoc, List.singleton_append, ← List.drop_eq_getElem_cons hj, List.take_append_drop]
    rw [e3] at h3
    intro e
    conv at e => rhs; rw [e6]
    exact h3 ((Adler.more_byte _ _ _ _).1 e).symm
  · obtain ⟨i, rfl⟩ : ∃ i, j = b.length + i := ⟨j - b.length, by omega⟩
    have hi : i < (sl4 b).length := by omega
    have e1 : R.take (b.length + i) = b ++ (sl4 b).take i := by rw [hR, List.take_append, List.take_of_length_le (by omega), Nat.add_sub_cancel_left]
    have e2 : R.drop (b.length + i + 1) = (sl4 b).drop (i + 1) := by
      rw [hR, List.drop_append, List.drop_eq_nil_of_le (by omega), List.nil_append]; congr 1; omega
    have e3 : R[b.length + i] = (sl4 b)[i] := by
      have : R[b.length + i]? = (sl4 b)[i]? := by rw [hR, List.getElem?_append_right (by omega), Nat.add_sub_cancel_left]
      rw [List.getElem?_eq_getElem hjR, List.getElem?_eq_getElem hi] at this
      injection this
    rw [e1, e2, List.append_assoc, List.take_left' rfl, List.drop_left' rfl]
    have e5 : ((sl4 b).take i ++ c :: (sl4 b).drop (i + 1)).length = 4 := by
      rw [List.length_append, List.length_cons, List.length_take, List.length_drop]; omega
    rw [List.take_of_length_le (by omega)]
    intro e
    have e6 := congrArg (fun n => Vary.be n 4) e
    have e7 := Vary.be_unbe 0 ((sl4 b).take i ++ c :: (sl4 b).drop (i + 1))
    rw [e5] at e7
    rw [e7] at e6
    have e8 : sl4 b = (sl4 b).take i ++ c :: (sl4 b).drop (i + 1) := e6
    have e9 := congrArg (fun l => l[i]?) e8
    rw [List.getElem?_append_right (by rw [List.length_take]; omega), List.length_take, show i - min i (sl4 b).length = 0 by omega, List.getElem?_cons_zero, List.getElem?_eq_getElem hi] at e9
    injection e9 with e9
    exact h3 (by rw [e3]; exact e9)
theorem uns_cut (b : Tx) (hb : b.length < 18446744073709551616) (k : Nat) (hk : k < (sld b).length) : uns ((sld b).take k) = ([], 0, 5) := by
  have hw := Vary.wr_len b.length
  have h4 := sl4_len b
  have hsl := seal_len b
  have hse : sld b = Vary.wr b.length ++ (b ++ sl4 b) := by unfold sld; rw [List.append_assoc]
  rcases Nat.lt_or_ge k (Vary.beh b.length + 1) with h | h
  · have : (sld b).take k = (Vary.wr b.length).take k := by rw [hse, List.take_append_of_le_length (by omega)]
    rw [this]
    exact uns_vary (Vary.rd_cut b.length k hb (by omega)) (by decide)
  · obtain ⟨j, rfl⟩ : ∃ j, k = Vary.beh b.length + 1 + j := ⟨k - (Vary.beh b.length + 1), by omega⟩
    have htk : (sld b).take (Vary.beh b.length + 1 + j) = Vary.wr b.length ++ (b ++ sl4 b).take j := by
      rw [hse, List.take_append, hw, List.take_of_length_le (by rw [hw]; omega), Nat.add_sub_cancel_left]
    rw [htk]
    exact uns_none (Vary.rd_wr _ _ hb) (List.drop_left' hw) (by rw [List.length_take, List.length_append]; omega)
end Hy.Pge
end
section
namespace Hy.Pge
open Go Hy.Cel
theorem wrt_bad {kind : Int} {l : List Cel} (h : cchk kind l ≠ 0) : wrt kind l = ([], cchk kind l) := by unfold wrt; rw [if_pos h]
theorem wrt_ok {kind : Int} {l : List Cel} (h : cchk kind l = 0) : wrt kind l = (sld (bdy kind l), 0) := by unfold wrt; rw [if_neg (by simp [h])]
theorem nums_dense {l : List Cel} (h : ∀ x ∈ nums l, x < 18446744073709551616) : ∀ x ∈ nums (dense l), x < 18446744073709551616 := fun x hx => by
  obtain ⟨c, hc, rfl⟩ := List.mem_map.1 hx
  exact h _ (List.mem_map.2 ⟨c, (List.mem_filter.1 hc).1, rfl⟩)
theorem sld_le {kind : Int} {l : List Cel} (h : cchk kind l = 0) (hl : ∀ x ∈ nums l, x < 18446744073709551616) : (sld (bdy kind l)).length ≤ 2053 := by
  have h1 := bdy_len h (nums_dense hl)
  have h2 := Vary.beh_le8 (bdy kind l).length
  rw [seal_len]; omega
end Hy.Pge
namespace Go.Proofs.YthgnipangcmanaaGreat
open Go.RowKit Hy
theorem pgRead_d (w : World) (SS : ByteArray) (s : List UInt8) (hS : SS = ⟨s.toArray⟩) (hl : s.length ≤ 10000) (hg : Pge.pgr s = (0, [], 0, 5)) :
    Calls Tryz.prog 12 #[.string SS] w fun e w' => ∃ B n c, e = .returned (.tuple #[.int .i64 0, .slice B n c, .int .i64 0, .int .i64 5]) ∧ Ext w w' := by
  have h := pgRead_any SS w (by rw [hS, str_size]; omega)
  rw [show SS.data.toList = s by rw [hS], hg] at h
  refine h.mono ?_
  rintro e w' ⟨B, n, c, rfl, hn, hr, hx⟩
  exact ⟨B, n, c, rfl, hx⟩
theorem pgRead_c (w : World) (SS : ByteArray) (s : List UInt8) (hS : SS = ⟨s.toArray⟩) (hl : s.length ≤ 10000) (hg : Pge.pgr s = (0, [], 0, 9)) :
    Calls Tryz.prog 12 #[.string SS] w fun e w' => ∃ B n c, e = .returned (.tuple #[.int .i64 0, .slice B n c, .int .i64 0, .int .i64 9]) ∧ n = 0 ∧ Ext w w' := by
  have h := pgRead_any SS w (by rw [hS, str_size]; omega)
  rw [show SS.data.toList = s by rw [hS], hg] at h
  refine h.mono ?_
  rintro e w' ⟨B, n, c, rfl, hn, hr, hx⟩
  exact ⟨B, n, c, rfl, hn, hx⟩
set_option maxRecDepth 100000 in
set_option maxHeartbeats 3200000 in
theorem pageTells_walk (kind : Int) (l : List Cel) (A : Option Addr) (n cap : Nat) (w : World) (hn : l.length = n) (hr : Rd w A (cls l)) (hl : ∀ x ∈ Pge.nums l, x < 18446744073709551616) (hnl : n ≤ 140737488355328) :
    Calls Tryz.prog 3 #[.int .i64 kind, .slice A n cap] w fun e w' => e = .returned (.bool true) ∧ Ext w w' := by
  have H1 := hid (pgWrite_any kind l A n cap w hn hr hl hnl)
  have H2 := hid (fun wx (hx : Ext w wx) => pageBytes_any kind l A n cap wx hn (hr.keep hx) hl hnl)
  have HB := hid (fun wx => pageBegun_any wx)
  generalize Pge.wrt kind l = R at *
  obtain ⟨t, er⟩ := R
  simp only at H1 H2
  obtain ⟨S, hS⟩ : ∃ S : ByteArray, S = ⟨t.toArray⟩ := ⟨_, rfl⟩
  rw [← hS] at H1 H2
  clear hn hr hl hnl hS
  go_enter Tryz.func3, Tryz.ntmps3
  go_wp2_with fail
  refine Calls.mono (H1.out) ?_
  rintro e wn ⟨rfl, hx⟩
  have X := hid hx
  clear hx
  go_wp2_with fail
  refine Calls.mono (H2.out _ X.out) ?_
  rintro e wn ⟨rfl, hx⟩
  replace X := hid (X.out.then hx)
  clear hx
  go_wp2_with fail
  refine Calls.mono (HB.out _) ?_
  rintro e wn ⟨rfl, hx⟩
  replace X := hid (X.out.then hx)
  clear hx
  go_wp2
  go_returns
  exact ⟨rfl, X.out⟩
set_option maxRecDepth 100000 in
set_option maxHeartbeats 3200000 in
theorem pageBack_walk (kind : Int) (l : List Cel) (A : Option Addr) (n cap : Nat) (Z : ByteArray) (w : World) (hn : l.length = n) (hr : Rd w A (cls l)) (hl : ∀ x ∈ Pge.nums l, x < 18446744073709551616) (hnl : n ≤ 140737488355328) (hZ : Z.size ≤ 140737488351232) :
    Calls Tryz.prog 5 #[.int .i64 kind, .slice A n cap, .string Z] w fun e w' => e = .returned (.bool true) ∧ Ext w w' := by
  by_cases hok : Cel.cchk kind l = 0
  rotate_left
  · have H1 := hid (pgWrite_any kind l A n cap w hn hr hl hnl)
    rw [Pge.wrt_bad hok] at H1
    have HB := hid (fun wx => pageBegun_any wx)
    obtain ⟨c, hc⟩ : ∃ c, c = Cel.cchk kind l := ⟨_, rfl⟩
    rw [← hc] at H1 hok
    have h3 : ((c : Int) != 0) = true := by rw [bne_iff_ne]; omega
    have h4 : ((c : Int) == 0) = false := by rw [beq_eq_false_iff_ne]; omega
    simp only at H1
    clear hn hr hl hnl hc hok
    go_enter Tryz.func5, Tryz.ntmps5
    go_wp2_with fail
    refine Calls.mono (H1.out) ?_
    rintro e wn ⟨rfl, hx⟩
    have X := hid hx
    clear hx
    go_wp2_with fail
    refine Calls.mono (HB.out _) ?_
    rintro e wn ⟨rfl, hx⟩
    replace X := hid (X.out.then hx)
    clear hx
    go_wp2
    go_returns
    exact ⟨rfl, X.out⟩
  have H1 := hid (pgWrite_any kind l A n cap w hn hr hl hnl)
  rw [Pge.wrt_ok hok] at H1
  have HB := hid (fun wx => pageBegun_any wx)
  have hle := Pge.sld_le hok hl
  have hbl := Pge.bdy_len hok (Pge.nums_dense hl)
  have hb8 := Vary.beh_le8 (Pge.bdy kind l).length
  have hsl := Pge.seal_len (Pge.bdy kind l)
  simp only at H1
  obtain ⟨S, hS⟩ : ∃ S : ByteArray, S = ⟨(Pge.sld (Pge.bdy kind l)).toArray⟩ := ⟨_, rfl⟩
  have hSd : S.data.toList = Pge.sld (Pge.bdy kind l) := by rw [hS]
  have hSz : S.size = (Pge.sld (Pge.bdy kind l)).length := by rw [hS, str_size]
  have hSI : (S.size : Int) ≤ 2053 := by omega
  rw [← hS] at H1
  have hd : (S ++ Z).data.toList = Pge.sld (Pge.bdy kind l) ++ Z.data.toList := by
    rw [hS]
    conv => lhs; rw [← str_self Z]
    rw [str_app]
  have hsz : (S ++ Z).size = S.size + Z.size := by
    have h1 := congrArg List.length hd
    have h2 : (S ++ Z).data.toList.length = (S ++ Z).size := Array.length_toList
    have h3 : Z.data.toList.length = Z.size := Array.length_toList
    rw [List.length_append] at h1
    omega
  have H2 := hid (fun wx => pgRead_any (S ++ Z) wx (by omega))
  rw [hd, Pge.pgr_seal _ hok (Pge.nums_dense hl), ← hSz] at H2
  unfold PageOut at H2
  simp only at H2
  have hkk : ((kind.toNat : Nat) : Int) = kind := by rcases (Cel.cchk_iff.1 hok).1 with rfl | rfl <;> rfl
  rw [hkk] at H2
  have H3 := hid (fun wx (A2 : Option Addr) (c2 : Nat) (h2 : Rd wx A2 (cls l)) (hx : Ext w wx) => sameCells_any l l A2 A n n c2 cap wx hn hn h2 (hr.keep hx) hnl)
  rw [decide_eq_true rfl] at H3
  have HN := hid hn
  have hZI : (Z.size : Int) ≤ 140737488351232 := by omega
  clear hn hr hl hnl hok hle hbl hb8 hsl hS hSd hSz hZ hd hsz hkk
  go_enter Tryz.func5, Tryz.ntmps5
  go_wp2_with fail
  refine Calls.mono (H1.out) ?_
  rintro e wn ⟨rfl, hx⟩
  have X := hid hx
  clear hx
  go_wp2_with fail
  refine Calls.mono (HB.out _) ?_
  rintro e wn ⟨rfl, hx⟩
  replace X := hid (X.out.then hx)
  clear hx
  go_wp2_with fail
  refine Calls.mono (H2.out _) ?_
  rintro e wn ⟨B, m, c, rfl, hm, hrd, hx⟩
  replace X := hid (X.out.then hx)
  have RB := hid hrd
  clear hrd
  obtain rfl : m = n := by rw [hm, HN.out]
  clear hm
  clear hx
  go_wp2_with fail
  refine Calls.mono (H3.out _ _ _ RB.out X.out) ?_
  rintro e wn ⟨rfl, hx⟩
  replace X := hid (X.out.then hx)
  clear hx
  go_wp2
  go_returns
  exact ⟨rfl, X.out⟩
set_option maxRecDepth 100000 in
set_option maxHeartbeats 3200000 in
theorem pageCut_walk (kind : Int) (l : List Cel) (A : Option Addr) (n cap : Nat) (k : Int) (w : World) (hn : l.length = n) (hr : Rd w A (cls l)) (hl : ∀ x ∈ Pge.nums l, x < 18446744073709551616) (hnl : n ≤ 140737488355328) :
    Calls Tryz.prog 8 #[.int .i64 kind, .slice A n cap, .int .i64 k] w fun e w' => e = .returned (.bool true) ∧ Ext w w' := by
  by_cases hok : Cel.cchk kind l = 0
  rotate_left
  · have H1 := hid (pgWrite_any kind l A n cap w hn hr hl hnl)
    rw [Pge.wrt_bad hok] at H1
    have HB := hid (fun wx => pageBegun_any wx)
    obtain ⟨c, hc⟩ : ∃ c, c = Cel.cchk kind l := ⟨_, rfl⟩
    rw [← hc] at H1 hok
    have h3 : ((c : Int) != 0) = true := by rw [bne_iff_ne]; omega
    have h4 : ((c : Int) == 0) = false := by rw [beq_eq_false_iff_ne]; omega
    simp only at H1
    clear hn hr hl hnl hc hok
    go_enter Tryz.func8, Tryz.ntmps8
    go_wp2_with fail
    refine Calls.mono (H1.out) ?_
    rintro e wn ⟨rfl, hx⟩
    have X := hid hx
    clear hx
    go_wp2_with fail
    refine Calls.mono (HB.out _) ?_
    rintro e wn ⟨rfl, hx⟩
    replace X := hid (X.out.then hx)
    clear hx
    go_wp2
    go_returns
    exact ⟨rfl, X.out⟩
  have H1 := hid (pgWrite_any kind l A n cap w hn hr hl hnl)
  rw [Pge.wrt_ok hok] at H1
  have HB := hid (fun wx => pageBegun_any wx)
  have hle := Pge.sld_le hok hl
  have hbl := Pge.bdy_len hok (Pge.nums_dense hl)
  have hb8 := Vary.beh_le8 (Pge.bdy kind l).length
  have hsl := Pge.seal_len (Pge.bdy kind l)
  simp only at H1
  obtain ⟨S, hS⟩ : ∃ S : ByteArray, S = ⟨(Pge.sld (Pge.bdy kind l)).toArray⟩ := ⟨_, rfl⟩
  have hSd : S.data.toList = Pge.sld (Pge.bdy kind l) := by rw [hS]
  have hSz : S.size = (Pge.sld (Pge.bdy kind l)).length := by rw [hS, str_size]
  have hSI : (S.size : Int) ≤ 2053 := by omega
  rw [← hS] at H1
  by_cases hk0 : k < 0
  · clear hn hr hl hnl hok hle hbl hb8 hsl hS hSd hSz
    go_enter Tryz.func8, Tryz.ntmps8
    go_wp2_with fail
    refine Calls.mono (H1.out) ?_
    rintro e wn ⟨rfl, hx⟩
    have X := hid hx
    clear hx
    go_wp2_with fail
    refine Calls.mono (HB.out _) ?_
    rintro e wn ⟨rfl, hx⟩
    replace X := hid (X.out.then hx)
    clear hx
    go_wp2
    go_returns
    exact ⟨rfl, X.out⟩
  · by_cases hk1 : k < (S.size : Int)
    rotate_left
    · clear hn hr hl hnl hok hle hbl hb8 hsl hS hSd hSz
      go_enter Tryz.func8, Tryz.ntmps8
      go_wp2_with fail
      refine Calls.mono (H1.out) ?_
      rintro e wn ⟨rfl, hx⟩
      have X := hid hx
      clear hx
      go_wp2_with fail
      refine Calls.mono (HB.out _) ?_
      rintro e wn ⟨rfl, hx⟩
      replace X := hid (X.out.then hx)
      clear hx
      go_wp2
      go_returns
      exact ⟨rfl, X.out⟩
    · obtain ⟨kk, rfl⟩ := Int.eq_ofNat_of_zero_le (show 0 ≤ k by omega)
      have hT := fun wx : World => run_to (P := Tryz.prog) (w := wx) Tryz.underlying9 S .i64 kk (by omega)
      rw [hSd] at hT
      obtain ⟨T, hT2⟩ : ∃ T : ByteArray, T = ⟨((Pge.sld (Pge.bdy kind l)).take kk).toArray⟩ := ⟨_, rfl⟩
      rw [← hT2] at hT
      have H2 := hid (fun wx => pgRead_d wx T _ hT2 (by rw [List.length_take]; omega) (Pge.pgr_1 (Pge.uns_cut _ (by omega) kk (by omega)) (by decide)))
      clear hn hr hl hnl hok hle hbl hb8 hsl hS hSd hSz hT2
      go_enter Tryz.func8, Tryz.ntmps8
      go_wp2_with fail
      refine Calls.mono (H1.out) ?_
      rintro e wn ⟨rfl, hx⟩
      have X := hid hx
      clear hx
      go_wp2_with fail
      refine Calls.mono (HB.out _) ?_
      rintro e wn ⟨rfl, hx⟩
      replace X := hid (X.out.then hx)
      clear hx
      go_wp2_with fail
      refine Calls.mono (H2.out _) ?_
      rintro e wn ⟨B, m, c, rfl, hx⟩
      replace X := hid (X.out.then hx)
      clear hx
      go_wp2
      go_returns
      exact ⟨rfl, X.out⟩
set_option maxRecDepth 100000 in
set_option maxHeartbeats 3200000 in
theorem pageHurt_walk (kind : Int) (l : List Cel) (A : Option Addr) (n cap : Nat) (at' : Int) (b : Nat) (w : World) (hn : l.length = n) (hr : Rd w A (cls l)) (hl : ∀ x ∈ Pge.nums l, x < 18446744073709551616) (hnl : n ≤ 140737488355328) (hb : b < 256) :
    Calls Tryz.prog 6 #[.int .i64 kind, .slice A n cap, .int .i64 at', .int .u8 b] w fun e w' => e = .returned (.bool true) ∧ Ext w w' := by
  by_cases hok : Cel.cchk kind l = 0
  rotate_left
  · have H1 := hid (pgWrite_any kind l A n cap w hn hr hl hnl)
    rw [Pge.wrt_bad hok] at H1
    have HB := hid (fun wx => pageBegun_any wx)
    obtain ⟨c, hc⟩ : ∃ c, c = Cel.cchk kind l := ⟨_, rfl⟩
    rw [← hc] at H1 hok
    have h3 : ((c : Int) != 0) = true := by rw [bne_iff_ne]; omega
    have h4 : ((c : Int) == 0) = false := by rw [beq_eq_false_iff_ne]; omega
    simp only at H1
    clear hn hr hl hnl hc hok
    go_enter Tryz.func6, Tryz.ntmps6
    go_wp2_with fail
    refine Calls.mono (H1.out) ?_
    rintro e wn ⟨rfl, hx⟩
    have X := hid hx
    clear hx
    go_wp2_with fail
    refine Calls.mono (HB.out _) ?_
    rintro e wn ⟨rfl, hx⟩
    replace X := hid (X.out.then hx)
    clear hx
    go_wp2
    go_returns
    exact ⟨rfl, X.out⟩
  have H1 := hid (pgWrite_any kind l A n cap w hn hr hl hnl)
  rw [Pge.wrt_ok hok] at H1
  have HB := hid (fun wx => pageBegun_any wx)
  have HP := hid (fun wx (hx : Ext w wx) => pageBody_any kind l A n cap wx hn (hr.keep hx) hok (Pge.nums_dense hl))
  have HV := hid (fun wx => varyBytes_any (Pge.bdy kind l).length wx (by have := Pge.bdy_len hok (Pge.nums_dense hl); omega))
  obtain ⟨D, hD⟩ : ∃ D : ByteArray, D = ⟨(Pge.bdy kind l).toArray⟩ := ⟨_, rfl⟩
  have hDz : D.size = (Pge.bdy kind l).length := by rw [hD, str_size]
  rw [← hD] at HP
  rw [← hDz] at HV
  obtain ⟨V, hV⟩ : ∃ V : ByteArray, V = ⟨(Vary.wr D.size).toArray⟩ := ⟨_, rfl⟩
  have hVz : V.size = Vary.beh (Pge.bdy kind l).length + 1 := by rw [hV, str_size, Vary.wr_len, hDz]
  rw [← hV] at HV
  have hle := Pge.sld_le hok hl
  have hbl := Pge.bdy_len hok (Pge.nums_dense hl)
  have hb8 := Vary.beh_le8 (Pge.bdy kind l).length
  have hsl := Pge.seal_len (Pge.bdy kind l)
  simp only at H1
  obtain ⟨S, hS⟩ : ∃ S : ByteArray, S = ⟨(Pge.sld (Pge.bdy kind l)).toArray⟩ := ⟨_, rfl⟩
  have hSd : S.data.toList = Pge.sld (Pge.bdy kind l) := by rw [hS]
  have hSz : S.size = (Pge.sld (Pge.bdy kind l)).length := by rw [hS, str_size]
  have hSI : (S.size : Int) ≤ 2053 := by omega
  rw [← hS] at H1
  have hDI : (D.size : Int) ≤ 2040 := by omega
  have hwD : IntKind.u64.wrap (D.size : Int) = (D.size : Int) := by rw [IntKind.wrap_u64]; omega
  have hVI : (V.size : Int) ≤ 9 := by omega
  have hV1 : (1 : Int) ≤ (V.size : Int) := by omega
  by_cases q1 : at' < (V.size : Int)
  · clear hn hr hl hnl hok hle hbl hb8 hsl hS hSd hSz hD hDz hV hVz
    go_enter Tryz.func6, Tryz.ntmps6
    go_wp2_with fail
    refine Calls.mono (H1.out) ?_
    rintro e wn ⟨rfl, hx⟩
    have X := hid hx
    clear hx
    go_wp2_with fail
    refine Calls.mono (HB.out _) ?_
    rintro e wn ⟨rfl, hx⟩
    replace X := hid (X.out.then hx)
    clear hx
    go_wp2_with fail
    refine Calls.mono (HP.out _ X.out) ?_
    rintro e wn ⟨rfl, hx⟩
    replace X := hid (X.out.then hx)
    clear hx
    go_wp2_with fail
    refine Calls.mono (HV.out _) ?_
    rintro e wn ⟨rfl, hx⟩
    replace X := hid (X.out.then hx)
    clear hx
    go_wp2
    go_returns
    exact ⟨rfl, X.out⟩
  · by_cases q2 : at' < (S.size : Int)
    rotate_left
    · clear hn hr hl hnl hok hle hbl hb8 hsl hS hSd hSz hD hDz hV hVz
      go_enter Tryz.func6, Tryz.ntmps6
      go_wp2_with fail
      refine Calls.mono (H1.out) ?_
      rintro e wn ⟨rfl, hx⟩
      have X := hid hx
      clear hx
      go_wp2_with fail
      refine Calls.mono (HB.out _) ?_
      rintro e wn ⟨rfl, hx⟩
      replace X := hid (X.out.then hx)
      clear hx
      go_wp2_with fail
      refine Calls.mono (HP.out _ X.out) ?_
      rintro e wn ⟨rfl, hx⟩
      replace X := hid (X.out.then hx)
      clear hx
      go_wp2_with fail
      refine Calls.mono (HV.out _) ?_
      rintro e wn ⟨rfl, hx⟩
      replace X := hid (X.out.then hx)
      clear hx
      go_wp2
      go_returns
      exact ⟨rfl, X.out⟩
    · obtain ⟨j, rfl⟩ := Int.eq_ofNat_of_zero_le (show 0 ≤ at' by omega)
      have hjl : j < (Pge.sld (Pge.bdy kind l)).length := by omega
      obtain ⟨c, hc⟩ : ∃ c, c = (Pge.sld (Pge.bdy kind l))[j] := ⟨_, rfl⟩
      have hix := fun wx : World => run_ix (P := Tryz.prog) (w := wx) Tryz.underlying9 S .i64 j c (by rw [hSd, List.getElem?_eq_getElem hjl, hc])
      have hc8 : (c.toNat : Int) ≤ 255 := by have := c.toNat_lt; omega
      have hb8I : (b : Int) ≤ 255 := by omega
      obtain ⟨cn, hcn⟩ : ∃ cn : Nat, cn = c.toNat := ⟨_, rfl⟩
      rw [← hcn] at hix hc8
      by_cases q3 : cn = b
      · have q3I : ((cn : Int) == (b : Int)) = true := by rw [q3]; simp
        clear hn hr hl hnl hok hle hbl hb8 hsl hS hSd hSz hD hDz hV hVz hb hjl hc hcn q3
        go_enter Tryz.func6, Tryz.ntmps6
        go_wp2_with fail
        refine Calls.mono (H1.out) ?_
        rintro e wn ⟨rfl, hx⟩
        have X := hid hx
        clear hx
        go_wp2_with fail
        refine Calls.mono (HB.out _) ?_
        rintro e wn ⟨rfl, hx⟩
        replace X := hid (X.out.then hx)
        clear hx
        go_wp2_with fail
        refine Calls.mono (HP.out _ X.out) ?_
        rintro e wn ⟨rfl, hx⟩
        replace X := hid (X.out.then hx)
        clear hx
        go_wp2_with fail
        refine Calls.mono (HV.out _) ?_
        rintro e wn ⟨rfl, hx⟩
        replace X := hid (X.out.then hx)
        clear hx
        go_wp2
        go_returns
        exact ⟨rfl, X.out⟩
      · have q3I : ((cn : Int) == (b : Int)) = false := by rw [beq_eq_false_iff_ne]; omega
        have HT := hid (fun wx => byteText_any b wx hb)
        obtain ⟨BT, hBT⟩ : ∃ BT : ByteArray, BT = ⟨#[UInt8.ofNat b]⟩ := ⟨_, rfl⟩
        rw [← hBT] at HT
        have hf1 := fun wx : World => run_to (P := Tryz.prog) (w := wx) Tryz.underlying9 S .i64 j (by omega)
        have hf2 := fun wx : World => run_from (P := Tryz.prog) (w := wx) Tryz.underlying9 S .i64 (j + 1) (by omega)
        rw [hSd] at hf1 hf2
        obtain ⟨P1, hP1⟩ : ∃ P : ByteArray, P = ⟨((Pge.sld (Pge.bdy kind l)).take j).toArray⟩ := ⟨_, rfl⟩
        obtain ⟨P2, hP2⟩ : ∃ P : ByteArray, P = ⟨((Pge.sld (Pge.bdy kind l)).drop (j + 1)).toArray⟩ := ⟨_, rfl⟩
        rw [← hP1] at hf1
        rw [← hP2] at hf2
        simp only [Int.natCast_add] at hf2
        rw [show ((1 : Nat) : Int) = 1 from rfl] at hf2
        have hne : (Pge.sld (Pge.bdy kind l))[j] ≠ UInt8.ofNat b := by
          intro e
          apply q3
          rw [hcn, hc, e, UInt8.toNat_ofNat']
          omega
        have hcat : P1 ++ BT ++ P2 = ⟨((Pge.sld (Pge.bdy kind l)).take j ++ UInt8.ofNat b :: (Pge.sld (Pge.bdy kind l)).drop (j + 1)).toArray⟩ := by
          rw [hP1, hBT, hP2, show (⟨#[UInt8.ofNat b]⟩ : ByteArray) = ⟨[UInt8.ofNat b].toArray⟩ from rfl, str_app, str_app, List.append_assoc, List.singleton_append]
        have H2 := hid (fun wx => pgRead_c wx (P1 ++ BT ++ P2) _ hcat (by rw [List.length_append, List.length_cons, List.length_take, List.length_drop]; omega) (Pge.pgr_1 (Pge.uns_hurt _ (by omega) j (UInt8.ofNat b) (by omega) hjl hne) (by decide)))
        have hp1 : P1.size ≤ 2053 := by rw [hP1, str_size, List.length_take]; omega
        have hp2 : P2.size ≤ 2053 := by rw [hP2, str_size, List.length_drop]; omega
        have hbt : BT.size = 1 := by rw [hBT]; rfl
        clear hn hr hl hnl hok hle hbl hb8 hsl hS hSd hSz hD hDz hV hVz hb hjl hc hcn q3 hBT hP1 hP2 hne hcat
        go_enter Tryz.func6, Tryz.ntmps6
        go_wp2_with fail
        refine Calls.mono (H1.out) ?_
        rintro e wn ⟨rfl, hx⟩
        have X := hid hx
        clear hx
        go_wp2_with fail
        refine Calls.mono (HB.out _) ?_
        rintro e wn ⟨rfl, hx⟩
        replace X := hid (X.out.then hx)
        clear hx
        go_wp2_with fail
        refine Calls.mono (HP.out _ X.out) ?_
        rintro e wn ⟨rfl, hx⟩
        replace X := hid (X.out.then hx)
        clear hx
        go_wp2_with fail
        refine Calls.mono (HV.out _) ?_
        rintro e wn ⟨rfl, hx⟩
        replace X := hid (X.out.then hx)
        clear hx
        go_wp2_with fail
        refine wp_region_walk [(0, true), (1, true), (2, true), (3, true), (6, true), (7, true), (8, true), (9, true), (4, false), (5, true), (10, true), (11, false), (12, true), (13, true), (14, true), (15, true), (16, true), (17, true), (18, true), (19, true), (20, true)] (by kernel_rfl) (by kernel_rfl) (fun _ _ _ _ _ h => h) (by kernel_rfl) (by rfl) ?_
        simp only [List.filterMap_cons, List.filterMap_nil, List.getElem?_toArray, List.getElem?_cons_zero, List.getElem?_cons_succ, Option.map_some]
        repeat (refine wpM_val (by rfl) ?_; intro K hK; go_big_quiet_op; go_big_quiet_on)
        have Y : Ext wn (wn).drew := (ext_refl _).draw
        refine wpM_do (by rfl) ?_
        intro K hK
        go_simp
        refine Calls.mono (HT.out _) ?_
        rintro e yn ⟨rfl, hx⟩
        replace Y := Ext.then Y hx
        refine hK _ _ Y ?_
        clear K hK hx
        repeat (refine wpM_val (by rfl) ?_; intro K hK; go_big_quiet_op; go_big_quiet_on)
        refine wpM_do (by rfl) ?_
        intro K hK
        go_simp
        refine Calls.mono (H2.out _) ?_
        rintro e yn ⟨B, m, cp, rfl, hm, hx⟩
        subst hm
        replace Y := Ext.then Y hx
        refine hK _ _ Y ?_
        clear K hK hx
        repeat (refine wpM_val (by rfl) ?_; intro K hK; go_big_quiet_op; go_big_quiet_on)
        refine wpM_nil ?_
        replace X := hid (X.out.then Y)
        clear Y
        go_wp2
        go_returns
        exact ⟨rfl, X.out⟩
end Go.Proofs.YthgnipangcmanaaGreat
end
