/- Texts of this claim, put together: walks and plain laws. -/
import Derived.Test.YthgnipangcmanaaGreatZC4
import Derived.Test.YthgnipangcmanaaGreatZF1
import Derived.Test.YthgnipangcmanaaGreatZC2
import Derived.Test.YthgnipangcmanaaGreatZB1
import Derived.Test.YthgnipangcmanaaGreatZC1
import Derived.Test.YthgnipangcmanaaGreatZV1
import Derived.Test.YthgnipangcmanaaGreatZH2
import Derived.Test.YthgnipangcmanaaGreatZE1
import Derived.Test.YthgnipangcmanaaGreatZD1
section
namespace Go.Proofs.YthgnipangcmanaaGreat
open Go.RowKit Hy
set_option maxRecDepth 100000 in
set_option maxHeartbeats 1600000 in
theorem pgNumbers_any (l : List Cel) (A : Option Addr) (n cap : Nat) (w : World) (hn : l.length = n) (hr : Rd w A (cls l)) (hnl : n ≤ 64) :
    Calls Tryz.prog 46 #[.slice A n cap] w fun e w' => ∃ B c, e = .returned (.slice B n c) ∧ Rd w' B (u64s (Pge.nums l)) ∧ Ext w w' ∧ n ≤ c := by
  have HN := hid hn
  have HA := hid hr
  have HL := hid hnl
  have hnI : (n : Int) ≤ 64 := by omega
  clear hn hr hnl
  go_enter Tryz.func46, Tryz.ntmps46
  go_wp2
  go_loopw [2, 7] (fun v c wr => ∃ k : Nat, k ≤ n ∧ c = .int .i64 k ∧ Hid (wr.ownsRow w.heap.size 34 1 v k (u64s (Pge.nums (l.take k)))) ∧ Hid (Ext w wr)) (fun _ c _ => n - (intOf c).toNat)
  case atStart => exact ⟨0, Nat.zero_le _, rfl, hid (World.ownsRow_nil _ _ _ _), hid (ext_refl _)⟩
  case round =>
    obtain ⟨k, hk, rfl, HO, HX⟩ := hrel
    by_cases hlt : k < n
    · have hka : k < l.length := by rw [HN.out]; exact hlt
      obtain ⟨b1, o1, e1, l1, c1⟩ := HA.out.cels k hka
      subst e1
      have d0 := (HX.out.cell (p := ⟨b1, o1 + k * 3, none⟩) l1).trans (c1 k hka).1
      have d1 := (HX.out.cell (p := ⟨b1, o1 + k * 3 + 1, none⟩) l1).trans (c1 k hka).2.1
      have d2 := (HX.out.cell (p := ⟨b1, o1 + k * 3 + 2, none⟩) l1).trans (c1 k hka).2.2
      have HE := hid (Pge.nums_take l k hka)
      have HK := hid hlt
      generalize l[k] = c at *
      generalize Pge.nums (l.take k) = M at *
      obtain ⟨kk, nn, ss⟩ := c
      simp only at d0 d1 d2 HE
      have BZ := Blk.new wr 48 #[.int .i64 kk, .int .u64 (nn : Nat), .string ss]
      obtain ⟨z0, z1, z2⟩ := BZ.c3
      replace HO := hid (own_ext HO.out ((ext_refl wr).new (.cells #[.int .i64 kk, .int .u64 (nn : Nat), .string ss] 48)))
      replace HX := hid (HX.out.new (.cells #[.int .i64 kk, .int .u64 (nn : Nat), .string ss] 48))
      clear BZ
      have hk64 := HL.out
      clear c1 hka l1 hk hlt
      go_wp2_with (at_builtin; go_loud (refine wpList_app rfl (.tmp 11) (.tmp 14) rowU64 rfl _ k (u64s M) rfl (own_ext HO.out (Ext.new (ext_refl _) _)) _ 1 (u64s [nn]) rfl (Src.rd Tryz.underlying58 _ 1 1 _ rfl (rd_lit (by simp) rfl) (u64s_one _) (fun h => by cases h)) (by have := HK.out; simp only [maxLen]; omega) (by have := HK.out; omega) (by have := HX.out.size; simp at this ⊢; omega) ?_; intro v' w5 hown5 hgrow hat hbel); have HO5 := hid hown5; have HX5 : Hid (Ext w w5) := hid (Below.trans (Ext.new HX.out _) hbel); clear hown5 hgrow hat hbel)
      go_roundw
      case rel => exact ⟨k + 1, by have := HK.out; omega, by go_num, hid (by rw [HE.out, u64s_app]; exact HO5.out), HX5⟩
      case measure => simp [intOf]; have := HK.out; omega
    · obtain rfl : k = n := by omega
      rw [List.take_of_length_le (by rw [HN.out]; exact Nat.le_refl _)] at HO
      obtain ⟨A3, c3, rfl, hrd3, _, hc3, _⟩ := Rd.owned HO.out
      have HR3 := hid hrd3
      have HC3 := hid hc3
      clear hrd3 hc3 hlt hk
      go_wp2
      go_returns
      exact ⟨A3, c3, rfl, HR3.out, HX.out, HC3.out⟩
set_option maxRecDepth 100000 in
set_option maxHeartbeats 1600000 in
theorem pgTexts_any (l : List Cel) (A : Option Addr) (n cap : Nat) (w : World) (hn : l.length = n) (hr : Rd w A (cls l)) (hnl : n ≤ 64) :
    Calls Tryz.prog 48 #[.slice A n cap] w fun e w' => ∃ B c, e = .returned (.slice B n c) ∧ Rd w' B (txs (Pge.wrds l)) ∧ Ext w w' ∧ n ≤ c := by
  have HN := hid hn
  have HA := hid hr
  have HL := hid hnl
  have hnI : (n : Int) ≤ 64 := by omega
  clear hn hr hnl
  go_enter Tryz.func48, Tryz.ntmps48
  go_wp2
  go_loopw [2, 7] (fun v c wr => ∃ k : Nat, k ≤ n ∧ c = .int .i64 k ∧ Hid (wr.ownsRow w.heap.size 9 1 v k (txs (Pge.wrds (l.take k)))) ∧ Hid (Ext w wr)) (fun _ c _ => n - (intOf c).toNat)
  case atStart => exact ⟨0, Nat.zero_le _, rfl, hid (World.ownsRow_nil _ _ _ _), hid (ext_refl _)⟩
  case round =>
    obtain ⟨k, hk, rfl, HO, HX⟩ := hrel
    by_cases hlt : k < n
    · have hka : k < l.length := by rw [HN.out]; exact hlt
      obtain ⟨b1, o1, e1, l1, c1⟩ := HA.out.cels k hka
      subst e1
      have d0 := (HX.out.cell (p := ⟨b1, o1 + k * 3, none⟩) l1).trans (c1 k hka).1
      have d1 := (HX.out.cell (p := ⟨b1, o1 + k * 3 + 1, none⟩) l1).trans (c1 k hka).2.1
      have d2 := (HX.out.cell (p := ⟨b1, o1 + k * 3 + 2, none⟩) l1).trans (c1 k hka).2.2
      have HE := hid (Pge.wrds_take l k hka)
      have HK := hid hlt
      generalize l[k] = c at *
      generalize Pge.wrds (l.take k) = M at *
      obtain ⟨kk, nn, ss⟩ := c
      simp only at d0 d1 d2 HE
      obtain ⟨tt, htt⟩ : ∃ tt : List UInt8, ss = ⟨tt.toArray⟩ := ⟨ss.data.toList, (str_self ss).symm⟩
      subst htt
      rw [show (⟨tt.toArray⟩ : ByteArray).data.toList = tt from rfl] at HE
      have BZ := Blk.new wr 48 #[.int .i64 kk, .int .u64 (nn : Nat), .string ⟨tt.toArray⟩]
      obtain ⟨z0, z1, z2⟩ := BZ.c3
      replace HO := hid (own_ext HO.out ((ext_refl wr).new (.cells #[.int .i64 kk, .int .u64 (nn : Nat), .string ⟨tt.toArray⟩] 48)))
      replace HX := hid (HX.out.new (.cells #[.int .i64 kk, .int .u64 (nn : Nat), .string ⟨tt.toArray⟩] 48))
      clear BZ
      have hk64 := HL.out
      clear c1 hka l1 hk hlt
      go_wp2_with (at_builtin; go_loud (refine wpList_app rfl (.tmp 11) (.tmp 14) rowTx rfl _ k (txs M) rfl (own_ext HO.out (Ext.new (ext_refl _) _)) _ 1 (txs [tt]) rfl (Src.rd Tryz.underlying64 _ 1 1 _ rfl (rd_lit (by simp) rfl) (txs_one _) (fun h => by cases h)) (by have := HK.out; simp only [maxLen]; omega) (by have := HK.out; omega) (by have := HX.out.size; simp at this ⊢; omega) ?_; intro v' w5 hown5 hgrow hat hbel); have HO5 := hid hown5; have HX5 : Hid (Ext w w5) := hid (Below.trans (Ext.new HX.out _) hbel); clear hown5 hgrow hat hbel)
      go_roundw
      case rel => exact ⟨k + 1, by have := HK.out; omega, by go_num, hid (by rw [HE.out, txs_app]; exact HO5.out), HX5⟩
      case measure => simp [intOf]; have := HK.out; omega
    · obtain rfl : k = n := by omega
      rw [List.take_of_length_le (by rw [HN.out]; exact Nat.le_refl _)] at HO
      obtain ⟨A3, c3, rfl, hrd3, _, hc3, _⟩ := Rd.owned HO.out
      have HR3 := hid hrd3
      have HC3 := hid hc3
      clear hrd3 hc3 hlt hk
      go_wp2
      go_returns
      exact ⟨A3, c3, rfl, HR3.out, HX.out, HC3.out⟩
set_option maxHeartbeats 800000 in
theorem packed_any (kind : Int) (d : List Cel) (A : Option Addr) (n cap : Nat) (w : World) (hk : kind = 1 ∨ kind = 2) (hn : d.length = n) (hr : Rd w A (cls d)) (hnl : n ≤ 64) (hl : ∀ x ∈ Pge.nums d, x < 18446744073709551616) (hf : ∀ s ∈ Pge.wrds d, s.length ≤ 16) :
    Calls Tryz.prog 21 #[.int .i64 kind, .slice A n cap] w fun e w' => e = .returned (.string ⟨(Pge.pck kind d).toArray⟩) ∧ Ext w w' := by
  rcases hk with rfl | rfl
  · have H1 := hid (pgNumbers_any d A n cap w hn hr hnl)
    have H2 := hid (fun B c wx (h : Rd wx B (u64s (Pge.nums d))) (hc : n ≤ c) => bestNumbers_any (Pge.nums d) B n c wx (by rw [Pge.nums_len, hn]) h hc hl (by omega))
    have hb : Cod.bnm (Pge.nums d) = (Pge.pck 1 d, 0) := by unfold Cod.bnm Pge.pck; rw [if_neg (by rw [Pge.nums_len]; omega), if_pos rfl]
    rw [hb] at H2
    generalize Pge.pck 1 d = PP at *
    clear hb hn hr hnl hl hf
    go_enter Tryz.func21, Tryz.ntmps21
    go_wp2_with fail
    refine Calls.mono H1.out ?_
    rintro e w1 ⟨B, c, rfl, hrd, hx, hc⟩
    have RB := hid hrd
    have Xp := hid hx
    have HC := hid hc
    clear hrd hx hc
    go_wp2_with fail
    refine Calls.mono (H2.out _ _ _ RB.out HC.out) ?_
    rintro e w2 ⟨rfl, hx⟩
    replace Xp := hid (Xp.out.then hx)
    clear hx
    go_wp2
    go_returns
    exact ⟨rfl, Xp.out⟩
  · have H1 := hid (pgTexts_any d A n cap w hn hr hnl)
    have H2 := hid (fun B c wx (h : Rd wx B (txs (Pge.wrds d))) => bestTexts_any (Pge.wrds d) B n c wx (by rw [Pge.wrds_len, hn]) h (by omega))
    have hb : Cod.btx (Pge.wrds d) = (Pge.pck 2 d, 0) := by unfold Cod.btx Pge.pck; rw [Cod.mny_of (by rw [Pge.wrds_len]; omega) hf, if_neg (by decide), if_neg (by decide)]
    rw [hb] at H2
    generalize Pge.pck 2 d = PP at *
    clear hb hn hr hnl hl hf
    go_enter Tryz.func21, Tryz.ntmps21
    go_wp2_with fail
    refine Calls.mono H1.out ?_
    rintro e w1 ⟨B, c, rfl, hrd, hx, hc⟩
    have RB := hid hrd
    have Xp := hid hx
    clear hrd hx hc
    go_wp2_with fail
    refine Calls.mono (H2.out _ _ _ RB.out) ?_
    rintro e w2 ⟨rfl, hx⟩
    replace Xp := hid (Xp.out.then hx)
    clear hx
    go_wp2
    go_returns
    exact ⟨rfl, Xp.out⟩
structure WrInv (y0 : World) (X0 X1 X2 : ByteArray) (kn : Nat) (f : Nat → Bool) (v : Nat → Value) (w : World) : Prop where
  e : Ext y0 w
  c2 : f 2 = true → f 3 = false → ∃ g, v 2 = .slice (some ⟨g, 0, none⟩) 1 1 ∧ Rd w (some ⟨g, 0, none⟩) (u8s [UInt8.ofNat kn])
  c3 : f 3 = true → f 8 = false → v 3 = .string (X0)
  c7 : f 7 = true → f 8 = false → v 7 = .string (X1)
  c8 : f 8 = true → f 13 = false → v 8 = .string (X0 ++ X1)
  c12 : f 12 = true → f 13 = false → v 12 = .string (X2)
  c13 : f 13 = true → f 14 = false → v 13 = .string (X0 ++ X1 ++ X2)
  c14 : f 14 = true → v 14 = .string (X0 ++ X1 ++ X2)
set_option maxRecDepth 100000 in
set_option maxHeartbeats 3200000 in
theorem pgWrite_11 (kind : Int) (l : List Cel) (A : Option Addr) (n cap : Nat) (w : World) (hn : l.length = n) (hr : Rd w A (cls l)) (hok : Cel.cchk kind l = 0) (hl : ∀ x ∈ Pge.nums (Cel.dense l), x < 18446744073709551616) (hs : (Cel.dense l).length < l.length) (ht : 0 < (Cel.dense l).length) :
    Calls Tryz.prog 9 #[.int .i64 kind, .slice A n cap] w fun e w' => e = .returned (.tuple #[.string ⟨(Pge.sld (Pge.bdy kind l)).toArray⟩, .int .i64 0]) ∧ Ext w w' := by
  have HSP := hid (split_any kind l A n cap w hn hr (by have := (Cel.cchk_iff.1 hok).2.1; omega))
  obtain ⟨g1, g2, g3⟩ := Cel.cchk_iff.1 hok
  have hle := Cel.dense_len l
  obtain ⟨dl, hdl⟩ : ∃ dl, dl = (Cel.dense l).length := ⟨_, rfl⟩
  have hbd := Pge.bdy_len hok hl
  have hwf := Pge.wrds_fit hok
  have hw1 : (Vary.wr n).length ≤ 9 := by rw [Vary.wr_len]; have := Vary.beh_le8 n; omega
  have hw2 : (Vary.wr dl).length ≤ 9 := by rw [Vary.wr_len]; have := Vary.beh_le8 dl; omega
  have hpl := Pge.pck_len hok hl
  have HBY := hid (fun B c wx (h : Rd wx B (bls (thereL l))) => bytes_any (thereL l) B n c wx (by rw [thereL_len, hn]) h (by omega))
  have hmk : Pge.mks l = Bits.packed (Mrk.ones (thereL l)) 1 := by unfold Pge.mks; rw [if_pos hs]
  have hpk : Bits.pk (Mrk.ones (thereL l)) 1 = (Pge.mks l, 0) := by rw [hmk]; exact Bits.pk_of (by decide) (by rw [Mrk.ones_len, thereL_len]; omega) (Pge.ones_lt2 _)
  rw [hpk] at HBY
  have hml := Pge.mks_len (l := l) (by omega)
  have HPK := hid (fun D m c wx (hm : m = dl) (h : Rd wx D (cls (Cel.dense l))) => packed_any kind (Cel.dense l) D m c wx g1 (by rw [hm, hdl]) h (by omega) hl hwf)
  have hdn : Pge.dns kind l = Pge.pck kind (Cel.dense l) := by unfold Pge.dns; rw [if_pos ht]
  have hby : Pge.bdy kind l = UInt8.ofNat kind.toNat :: (Vary.wr n ++ Vary.wr dl ++ Pge.mks l ++ Pge.dns kind l) := by unfold Pge.bdy; rw [hn, ← hdl]
  rw [hmk, hdn] at hby
  have G1 : Gives Tryz.prog 19 #[.int .u64 n] (.string ⟨(Vary.wr n).toArray⟩) := fun wx => write_any n wx (by omega)
  have G2 : Gives Tryz.prog 19 #[.int .u64 dl] (.string ⟨(Vary.wr dl).toArray⟩) := fun wx => write_any dl wx (by omega)
  obtain ⟨kn, hkn⟩ : ∃ kn : Nat, kind = (kn : Int) ∧ (kn = 1 ∨ kn = 2) := by rcases g1 with rfl | rfl; exact ⟨1, rfl, .inl rfl⟩; exact ⟨2, rfl, .inr rfl⟩
  obtain ⟨rfl, hkk⟩ := hkn
  rw [Int.toNat_natCast] at hby
  obtain ⟨X0, hX0⟩ : ∃ S : ByteArray, S = ⟨[UInt8.ofNat kn].toArray⟩ := ⟨_, rfl⟩
  obtain ⟨X1, hX1⟩ : ∃ S : ByteArray, S = ⟨(Vary.wr n).toArray⟩ := ⟨_, rfl⟩
  obtain ⟨X2, hX2⟩ : ∃ S : ByteArray, S = ⟨(Vary.wr dl).toArray⟩ := ⟨_, rfl⟩
  obtain ⟨X3, hX3⟩ : ∃ S : ByteArray, S = ⟨(Pge.mks l).toArray⟩ := ⟨_, rfl⟩
  have hz3 : X3.size ≤ 8 := by rw [hX3, str_size]; exact hml
  rw [← hX3] at HBY
  obtain ⟨X4, hX4⟩ : ∃ S : ByteArray, S = ⟨(Pge.pck (kn : Int) (Cel.dense l)).toArray⟩ := ⟨_, rfl⟩
  have hz4 : X4.size ≤ 2001 := by rw [hX4, str_size]; exact hpl
  rw [← hX4] at HPK
  have hz0 : X0.size = 1 := by rw [hX0]; rfl
  have hz1 : X1.size ≤ 9 := by rw [hX1, str_size]; exact hw1
  have hz2 : X2.size ≤ 9 := by rw [hX2, str_size]; exact hw2
  rw [← hX1] at G1
  rw [← hX2] at G2
  have hVV : X0 ++ X1 ++ X2 ++ X3 ++ X4 = ⟨(Pge.bdy (kn : Int) l).toArray⟩ := by
    rw [hby, hX0, hX1, hX2, hX3, hmk, hX4]
    simp only [str_app]
    simp
  have HSE := hid (fun wx => sealed_any (X0 ++ X1 ++ X2 ++ X3 ++ X4) wx (by rw [hVV, str_size]; omega))
  rw [show (X0 ++ X1 ++ X2 ++ X3 ++ X4).data.toList = Pge.bdy (kn : Int) l by rw [hVV]] at HSE
  have HB0 := hid hX0
  have HWB := hid (Cod.byte_u8 kn (by omega))
  have hwk : IntKind.u8.wrap (kn : Int) = (kn : Int) := by rw [IntKind.wrap_u8]; omega
  have hnI : (n : Int) ≤ 64 := by omega
  have hdI : (dl : Int) ≤ 64 := by omega
  have hdn1 : (dl : Int) < (n : Int) := by omega
  have hdn2 : (0 : Int) < (dl : Int) := by omega
  have hkI : (kn : Int) ≤ 2 := by omega
  have HLN := hid hn
  have HDL := hid hdl
  generalize Pge.sld (Pge.bdy (kn : Int) l) = SS at *
  have HOK := hid hok
  clear hVV hby hX0 hX1 hX2 hX3 hml hpk hX4 hw1 hw2 hpl hbd hwf hle g1 g2 g3 hok hl hn hr hmk hdn hdl hkk hs ht
  unfold SplitOut at HSP
  go_enter Tryz.func9, Tryz.ntmps9
  go_wp2_with fail
  refine Calls.mono HSP.out ?_
  rintro e w1 ⟨C, n', c, D, m', d, rfl, hx, hc, hd, h | h⟩
  · obtain ⟨h0, rfl, hm', h1, h2⟩ := h
    rw [h0]
    rw [HLN.out]
    rw [HLN.out] at hc
    obtain rfl : m' = dl := by rw [hm', HDL.out]
    have RC := hid h1
    have RD := hid h2
    have Xp := hid hx
    clear h0 h1 h2 hx hc hd hm'
    go_wp2
    refine wp_region_inv [] [0, 1, 4, 5, 6, 9, 10, 11] [(2, []), (3, [2]), (7, []), (8, [3, 7]), (12, [7]), (13, [8, 12]), (14, [13])] (by kernel_rfl) (by kernel_rfl) (fun _ _ _ _ _ h => h) (by kernel_rfl) (by kernel_rfl) (by rfl) ?_
    simp only [List.filterMap_cons, List.filterMap_nil, List.getElem?_toArray, List.getElem?_cons_zero, List.getElem?_cons_succ, Option.map_some]
    repeat (refine wpQ_val (by rfl) ?_; intro K hK; go_big_quiet_op; go_big_quiet_on)
    refine wpQ_nil ?_
    refine ⟨fun f v w => WrInv w1 X0 X1 X2 kn f v w, by rfl, ?_, ?_, ?_⟩
    · exact ⟨(ext_refl w1).draw, fun h _ => absurd h (by decide), fun h _ => absurd h (by decide), fun h _ => absurd h (by decide), fun h _ => absurd h (by decide), fun h _ => absurd h (by decide), fun h _ => absurd h (by decide), fun h => absurd h (by decide)⟩
    · refine ⟨?_, ?_, ?_, ?_, ?_, ?_, ?_, trivial⟩
      · intro f v w hf hd hcl I K hK
        have n3 : f 3 = false := (by cases h : f 3 with | false => rfl | true => exact absurd ((hcl (3, [2]) (by simp) h 2 (by simp)).symm.trans hf) (by decide))
        have n8 : f 8 = false := (by cases h : f 8 with | false => rfl | true => exact absurd ((hcl (8, [3, 7]) (by simp) h 3 (by simp)).symm.trans n3) (by decide))
        have n13 : f 13 = false := (by cases h : f 13 with | false => rfl | true => exact absurd ((hcl (13, [8, 12]) (by simp) h 8 (by simp)).symm.trans n8) (by decide))
        have n14 : f 14 = false := (by cases h : f 14 with | false => rfl | true => exact absurd ((hcl (14, [13]) (by simp) h 13 (by simp)).symm.trans n13) (by decide))
        simp only [putAll]
        go_simp
        have hx := Ext.new (ext_refl w) (.cells #[.int .u8 (kn : Int)] 5)
        refine hK _ _ rfl (fun _ h => h.then hx) ?_
        exact {
          e := I.e.then hx
          c2 := fun _ _ => ⟨_, rfl, rd_lit (w := w) (g := w.heap.size) (C := #[.int .u8 (kn : Int)]) (e := 5) (fz := (0, 0)) (cs := u8s [UInt8.ofNat kn]) rfl HWB.out⟩
          c3 := fun h3 _ => absurd ((show f 3 = true from h3).symm.trans n3) (by decide)
          c7 := fun h7 h8 => (I.c7 h7 h8)
          c8 := fun h8 _ => absurd ((show f 8 = true from h8).symm.trans n8) (by decide)
          c12 := fun h12 h13 => (I.c12 h12 h13)
          c13 := fun h13 _ => absurd ((show f 13 = true from h13).symm.trans n13) (by decide)
          c14 := fun h14 => absurd ((show f 14 = true from h14).symm.trans n14) (by decide)
        }
      · intro f v w hf hd hcl I K hK
        have t2 : f 2 = true := hd 2 (by simp)
        have n8 : f 8 = false := (by cases h : f 8 with | false => rfl | true => exact absurd ((hcl (8, [3, 7]) (by simp) h 3 (by simp)).symm.trans hf) (by decide))
        have n13 : f 13 = false := (by cases h : f 13 with | false => rfl | true => exact absurd ((hcl (13, [8, 12]) (by simp) h 8 (by simp)).symm.trans n8) (by decide))
        have n14 : f 14 = false := (by cases h : f 14 with | false => rfl | true => exact absurd ((hcl (14, [13]) (by simp) h 13 (by simp)).symm.trans n13) (by decide))
        simp only [putAll, dstOf, List.getElem?_toArray, List.getElem?_cons_zero, List.getElem?_cons_succ, Option.bind_some]
        obtain ⟨g, ev, rv⟩ := (I.c2 t2 hf)
        rw [ev]
        have hcv := run_str_rd (P := Tryz.prog) (src := 42) (dst := 9) (e := 5) Tryz.underlying42 Tryz.underlying5 Tryz.underlying9 _ 1 1 [UInt8.ofNat kn] rfl rv (fun h => by cases h)
        rw [← HB0.out] at hcv
        go_simp
        refine hK _ _ rfl (fun _ h => h) ?_
        exact {
          e := I.e
          c2 := fun _ h3 => absurd (show true = false from h3) (by decide)
          c3 := fun _ _ => rfl
          c7 := fun h7 h8 => (I.c7 h7 h8)
          c8 := fun h8 _ => absurd ((show f 8 = true from h8).symm.trans n8) (by decide)
          c12 := fun h12 h13 => (I.c12 h12 h13)
          c13 := fun h13 _ => absurd ((show f 13 = true from h13).symm.trans n13) (by decide)
          c14 := fun h14 => absurd ((show f 14 = true from h14).symm.trans n14) (by decide)
        }
      · intro f v w hf hd hcl I K hK
        have n8 : f 8 = false := (by cases h : f 8 with | false => rfl | true => exact absurd ((hcl (8, [3, 7]) (by simp) h 7 (by simp)).symm.trans hf) (by decide))
        have n12 : f 12 = false := (by cases h : f 12 with | false => rfl | true => exact absurd ((hcl (12, [7]) (by simp) h 7 (by simp)).symm.trans hf) (by decide))
        have n13 : f 13 = false := (by cases h : f 13 with | false => rfl | true => exact absurd ((hcl (13, [8, 12]) (by simp) h 8 (by simp)).symm.trans n8) (by decide))
        have n14 : f 14 = false := (by cases h : f 14 with | false => rfl | true => exact absurd ((hcl (14, [13]) (by simp) h 13 (by simp)).symm.trans n13) (by decide))
        simp only [putAll]
        go_simp
        refine Calls.mono (G1 _) ?_
        rintro e w' ⟨rfl, hx⟩
        refine hK _ _ rfl (fun _ h => h.then hx) ?_
        exact {
          e := I.e.then hx
          c2 := fun h2 h3 => by obtain ⟨g, e, r⟩ := (I.c2 h2 h3); exact ⟨g, e, r.keep hx⟩
          c3 := fun h3 h8 => (I.c3 h3 h8)
          c7 := fun _ _ => rfl
          c8 := fun h8 _ => absurd ((show f 8 = true from h8).symm.trans n8) (by decide)
          c12 := fun h12 _ => absurd ((show f 12 = true from h12).symm.trans n12) (by decide)
          c13 := fun h13 _ => absurd ((show f 13 = true from h13).symm.trans n13) (by decide)
          c14 := fun h14 => absurd ((show f 14 = true from h14).symm.trans n14) (by decide)
        }
      · intro f v w hf hd hcl I K hK
        have t3 : f 3 = true := hd 3 (by simp)
        have t7 : f 7 = true := hd 7 (by simp)
        have t2 : f 2 = true := hcl (3, [2]) (by simp) t3 2 (by simp)
        have n13 : f 13 = false := (by cases h : f 13 with | false => rfl | true => exact absurd ((hcl (13, [8, 12]) (by simp) h 8 (by simp)).symm.trans hf) (by decide))
        have n14 : f 14 = false := (by cases h : f 14 with | false => rfl | true => exact absurd ((hcl (14, [13]) (by simp) h 13 (by simp)).symm.trans n13) (by decide))
        simp only [putAll, dstOf, List.getElem?_toArray, List.getElem?_cons_zero, List.getElem?_cons_succ, Option.bind_some]
        rw [(I.c3 t3 hf), (I.c7 t7 hf)]
        go_simp
        try rw [if_neg (by omega)]
        refine hK _ _ rfl (fun _ h => h) ?_
        exact {
          e := I.e
          c2 := fun _ h3 => absurd ((show f 3 = false from h3).symm.trans t3) (by decide)
          c3 := fun _ h8 => absurd (show true = false from h8) (by decide)
          c7 := fun _ h8 => absurd (show true = false from h8) (by decide)
          c8 := fun _ _ => rfl
          c12 := fun h12 h13 => (I.c12 h12 h13)
          c13 := fun h13 _ => absurd ((show f 13 = true from h13).symm.trans n13) (by decide)
          c14 := fun h14 => absurd ((show f 14 = true from h14).symm.trans n14) (by decide)
        }
      · intro f v w hf hd hcl I K hK
        have t7 : f 7 = true := hd 7 (by simp)
        have n13 : f 13 = false := (by cases h : f 13 with | false => rfl | true => exact absurd ((hcl (13, [8, 12]) (by simp) h 12 (by simp)).symm.trans hf) (by decide))
        have n14 : f 14 = false := (by cases h : f 14 with | false => rfl | true => exact absurd ((hcl (14, [13]) (by simp) h 13 (by simp)).symm.trans n13) (by decide))
        simp only [putAll, dstOf, List.getElem?_toArray, List.getElem?_cons_zero, List.getElem?_cons_succ, Option.bind_some]
        go_simp
        refine Calls.mono (G2 _) ?_
        rintro e w' ⟨rfl, hx⟩
        refine hK _ _ rfl (fun _ h => h.then hx) ?_
        exact {
          e := I.e.then hx
          c2 := fun h2 h3 => by obtain ⟨g, e, r⟩ := (I.c2 h2 h3); exact ⟨g, e, r.keep hx⟩
          c3 := fun h3 h8 => (I.c3 h3 h8)
          c7 := fun h7 h8 => (I.c7 h7 h8)
          c8 := fun h8 h13 => (I.c8 h8 h13)
          c12 := fun _ _ => rfl
          c13 := fun h13 _ => absurd ((show f 13 = true from h13).symm.trans n13) (by decide)
          c14 := fun h14 => absurd ((show f 14 = true from h14).symm.trans n14) (by decide)
        }
      · intro f v w hf hd hcl I K hK
        have t8 : f 8 = true := hd 8 (by simp)
        have t12 : f 12 = true := hd 12 (by simp)
        have t3 : f 3 = true := hcl (8, [3, 7]) (by simp) t8 3 (by simp)
        have t7 : f 7 = true := hcl (8, [3, 7]) (by simp) t8 7 (by simp)
        have t2 : f 2 = true := hcl (3, [2]) (by simp) t3 2 (by simp)
        have n14 : f 14 = false := (by cases h : f 14 with | false => rfl | true => exact absurd ((hcl (14, [13]) (by simp) h 13 (by simp)).symm.trans hf) (by decide))
        simp only [putAll, dstOf, List.getElem?_toArray, List.getElem?_cons_zero, List.getElem?_cons_succ, Option.bind_some]
        rw [(I.c8 t8 hf), (I.c12 t12 hf)]
        go_simp
        try rw [if_neg (by omega)]
        refine hK _ _ rfl (fun _ h => h) ?_
        exact {
          e := I.e
          c2 := fun _ h3 => absurd ((show f 3 = false from h3).symm.trans t3) (by decide)
          c3 := fun _ h8 => absurd ((show f 8 = false from h8).symm.trans t8) (by decide)
          c7 := fun _ h8 => absurd ((show f 8 = false from h8).symm.trans t8) (by decide)
          c8 := fun _ h13 => absurd (show true = false from h13) (by decide)
          c12 := fun _ h13 => absurd (show true = false from h13) (by decide)
          c13 := fun _ _ => rfl
          c14 := fun h14 => absurd ((show f 14 = true from h14).symm.trans n14) (by decide)
        }
      · intro f v w hf hd hcl I K hK
        have t13 : f 13 = true := hd 13 (by simp)
        have t8 : f 8 = true := hcl (13, [8, 12]) (by simp) t13 8 (by simp)
        have t12 : f 12 = true := hcl (13, [8, 12]) (by simp) t13 12 (by simp)
        have t3 : f 3 = true := hcl (8, [3, 7]) (by simp) t8 3 (by simp)
        have t7 : f 7 = true := hcl (8, [3, 7]) (by simp) t8 7 (by simp)
        have t2 : f 2 = true := hcl (3, [2]) (by simp) t3 2 (by simp)
        simp only [putAll, dstOf, List.getElem?_toArray, List.getElem?_cons_zero, List.getElem?_cons_succ, Option.bind_some]
        rw [(I.c13 t13 hf)]
        go_simp
        refine hK _ _ rfl (fun _ h => h) ?_
        exact {
          e := I.e
          c2 := fun _ h3 => absurd ((show f 3 = false from h3).symm.trans t3) (by decide)
          c3 := fun _ h8 => absurd ((show f 8 = false from h8).symm.trans t8) (by decide)
          c7 := fun _ h8 => absurd ((show f 8 = false from h8).symm.trans t8) (by decide)
          c8 := fun _ h13 => absurd ((show f 13 = false from h13).symm.trans t13) (by decide)
          c12 := fun _ h13 => absurd ((show f 13 = false from h13).symm.trans t13) (by decide)
          c13 := fun _ h14 => absurd (show true = false from h14) (by decide)
          c14 := fun _ => rfl
        }
    intro f v w' hall I
    have t14 : f 14 = true := hall 14 (by simp)
    have XI := I.e
    have EV := I.c14 t14
    simp only [putAll, dstOf, List.map_cons, List.map_nil, List.getElem?_toArray, List.getElem?_cons_zero, List.getElem?_cons_succ, Option.bind_some]
    rw [EV]
    clear EV I hall
    clear t14
    replace RC := hid (RC.out.keep XI)
    replace RD := hid (RD.out.keep XI)
    replace Xp := hid (Xp.out.then XI)
    clear XI
    go_wp2_with fail
    refine Calls.mono (HBY.out _ _ _ RC.out) ?_
    rintro e w1 ⟨rfl, hx⟩
    replace Xp := hid (Xp.out.then hx)
    replace RC := hid (RC.out.keep hx)
    replace RD := hid (RD.out.keep hx)
    clear hx 
    go_wp2_with fail
    refine Calls.mono (HPK.out _ _ _ _ rfl RD.out) ?_
    rintro e w2 ⟨rfl, hx⟩
    replace Xp := hid (Xp.out.then hx)
    replace RD := hid (RD.out.keep hx)
    clear hx 
    go_wp2_with fail
    refine Calls.mono (HSE.out _) ?_
    rintro e w3 ⟨rfl, hx⟩
    replace Xp := hid (Xp.out.then hx)
    clear hx 
    go_wp2
    go_returns
    exact ⟨rfl, Xp.out⟩
  · exact absurd HOK.out h.1
set_option maxRecDepth 100000 in
set_option maxHeartbeats 3200000 in
theorem pgWrite_10 (kind : Int) (l : List Cel) (A : Option Addr) (n cap : Nat) (w : World) (hn : l.length = n) (hr : Rd w A (cls l)) (hok : Cel.cchk kind l = 0) (hl : ∀ x ∈ Pge.nums (Cel.dense l), x < 18446744073709551616) (hs : (Cel.dense l).length < l.length) (ht : ¬ 0 < (Cel.dense l).length) :
    Calls Tryz.prog 9 #[.int .i64 kind, .slice A n cap] w fun e w' => e = .returned (.tuple #[.string ⟨(Pge.sld (Pge.bdy kind l)).toArray⟩, .int .i64 0]) ∧ Ext w w' := by
  have HSP := hid (split_any kind l A n cap w hn hr (by have := (Cel.cchk_iff.1 hok).2.1; omega))
  obtain ⟨g1, g2, g3⟩ := Cel.cchk_iff.1 hok
  have hle := Cel.dense_len l
  obtain ⟨dl, hdl⟩ : ∃ dl, dl = (Cel.dense l).length := ⟨_, rfl⟩
  have hbd := Pge.bdy_len hok hl
  have hwf := Pge.wrds_fit hok
  have hw1 : (Vary.wr n).length ≤ 9 := by rw [Vary.wr_len]; have := Vary.beh_le8 n; omega
  have hw2 : (Vary.wr dl).length ≤ 9 := by rw [Vary.wr_len]; have := Vary.beh_le8 dl; omega
  have hpl := Pge.pck_len hok hl
  have HBY := hid (fun B c wx (h : Rd wx B (bls (thereL l))) => bytes_any (thereL l) B n c wx (by rw [thereL_len, hn]) h (by omega))
  have hmk : Pge.mks l = Bits.packed (Mrk.ones (thereL l)) 1 := by unfold Pge.mks; rw [if_pos hs]
  have hpk : Bits.pk (Mrk.ones (thereL l)) 1 = (Pge.mks l, 0) := by rw [hmk]; exact Bits.pk_of (by decide) (by rw [Mrk.ones_len, thereL_len]; omega) (Pge.ones_lt2 _)
  rw [hpk] at HBY
  have hml := Pge.mks_len (l := l) (by omega)
  have hdn : Pge.dns kind l = [] := by unfold Pge.dns; rw [if_neg ht]
  have hby : Pge.bdy kind l = UInt8.ofNat kind.toNat :: (Vary.wr n ++ Vary.wr dl ++ Pge.mks l ++ Pge.dns kind l) := by unfold Pge.bdy; rw [hn, ← hdl]
  rw [hmk, hdn] at hby
  have G1 : Gives Tryz.prog 19 #[.int .u64 n] (.string ⟨(Vary.wr n).toArray⟩) := fun wx => write_any n wx (by omega)
  have G2 : Gives Tryz.prog 19 #[.int .u64 dl] (.string ⟨(Vary.wr dl).toArray⟩) := fun wx => write_any dl wx (by omega)
  obtain ⟨kn, hkn⟩ : ∃ kn : Nat, kind = (kn : Int) ∧ (kn = 1 ∨ kn = 2) := by rcases g1 with rfl | rfl; exact ⟨1, rfl, .inl rfl⟩; exact ⟨2, rfl, .inr rfl⟩
  obtain ⟨rfl, hkk⟩ := hkn
  rw [Int.toNat_natCast] at hby
  obtain ⟨X0, hX0⟩ : ∃ S : ByteArray, S = ⟨[UInt8.ofNat kn].toArray⟩ := ⟨_, rfl⟩
  obtain ⟨X1, hX1⟩ : ∃ S : ByteArray, S = ⟨(Vary.wr n).toArray⟩ := ⟨_, rfl⟩
  obtain ⟨X2, hX2⟩ : ∃ S : ByteArray, S = ⟨(Vary.wr dl).toArray⟩ := ⟨_, rfl⟩
  obtain ⟨X3, hX3⟩ : ∃ S : ByteArray, S = ⟨(Pge.mks l).toArray⟩ := ⟨_, rfl⟩
  have hz3 : X3.size ≤ 8 := by rw [hX3, str_size]; exact hml
  rw [← hX3] at HBY
  have hz0 : X0.size = 1 := by rw [hX0]; rfl
  have hz1 : X1.size ≤ 9 := by rw [hX1, str_size]; exact hw1
  have hz2 : X2.size ≤ 9 := by rw [hX2, str_size]; exact hw2
  rw [← hX1] at G1
  rw [← hX2] at G2
  have hVV : X0 ++ X1 ++ X2 ++ X3 = ⟨(Pge.bdy (kn : Int) l).toArray⟩ := by
    rw [hby, hX0, hX1, hX2, hX3, hmk]
    simp only [str_app]
    simp
  have HSE := hid (fun wx => sealed_any (X0 ++ X1 ++ X2 ++ X3) wx (by rw [hVV, str_size]; omega))
  rw [show (X0 ++ X1 ++ X2 ++ X3).data.toList = Pge.bdy (kn : Int) l by rw [hVV]] at HSE
  have HB0 := hid hX0
  have HWB := hid (Cod.byte_u8 kn (by omega))
  have hwk : IntKind.u8.wrap (kn : Int) = (kn : Int) := by rw [IntKind.wrap_u8]; omega
  have hnI : (n : Int) ≤ 64 := by omega
  have hdI : (dl : Int) ≤ 64 := by omega
  have hdn1 : (dl : Int) < (n : Int) := by omega
  have hdn2 : ¬ (0 : Int) < (dl : Int) := by omega
  have hkI : (kn : Int) ≤ 2 := by omega
  have HLN := hid hn
  have HDL := hid hdl
  generalize Pge.sld (Pge.bdy (kn : Int) l) = SS at *
  have HOK := hid hok
  clear hVV hby hX0 hX1 hX2 hX3 hml hpk hw1 hw2 hpl hbd hwf hle g1 g2 g3 hok hl hn hr hmk hdn hdl hkk hs ht
  unfold SplitOut at HSP
  go_enter Tryz.func9, Tryz.ntmps9
  go_wp2_with fail
  refine Calls.mono HSP.out ?_
  rintro e w1 ⟨C, n', c, D, m', d, rfl, hx, hc, hd, h | h⟩
  · obtain ⟨h0, rfl, hm', h1, h2⟩ := h
    rw [h0]
    rw [HLN.out]
    rw [HLN.out] at hc
    obtain rfl : m' = dl := by rw [hm', HDL.out]
    have RC := hid h1
    have RD := hid h2
    have Xp := hid hx
    clear h0 h1 h2 hx hc hd hm'
    go_wp2
    refine wp_region_inv [] [0, 1, 4, 5, 6, 9, 10, 11] [(2, []), (3, [2]), (7, []), (8, [3, 7]), (12, [7]), (13, [8, 12]), (14, [13])] (by kernel_rfl) (by kernel_rfl) (fun _ _ _ _ _ h => h) (by kernel_rfl) (by kernel_rfl) (by rfl) ?_
    simp only [List.filterMap_cons, List.filterMap_nil, List.getElem?_toArray, List.getElem?_cons_zero, List.getElem?_cons_succ, Option.map_some]
    repeat (refine wpQ_val (by rfl) ?_; intro K hK; go_big_quiet_op; go_big_quiet_on)
    refine wpQ_nil ?_
    refine ⟨fun f v w => WrInv w1 X0 X1 X2 kn f v w, by rfl, ?_, ?_, ?_⟩
    · exact ⟨(ext_refl w1).draw, fun h _ => absurd h (by decide), fun h _ => absurd h (by decide), fun h _ => absurd h (by decide), fun h _ => absurd h (by decide), fun h _ => absurd h (by decide), fun h _ => absurd h (by decide), fun h => absurd h (by decide)⟩
    · refine ⟨?_, ?_, ?_, ?_, ?_, ?_, ?_, trivial⟩
      · intro f v w hf hd hcl I K hK
        have n3 : f 3 = false := (by cases h : f 3 with | false => rfl | true => exact absurd ((hcl (3, [2]) (by simp) h 2 (by simp)).symm.trans hf) (by decide))
        have n8 : f 8 = false := (by cases h : f 8 with | false => rfl | true => exact absurd ((hcl (8, [3, 7]) (by simp) h 3 (by simp)).symm.trans n3) (by decide))
        have n13 : f 13 = false := (by cases h : f 13 with | false => rfl | true => exact absurd ((hcl (13, [8, 12]) (by simp) h 8 (by simp)).symm.trans n8) (by decide))
        have n14 : f 14 = false := (by cases h : f 14 with | false => rfl | true => exact absurd ((hcl (14, [13]) (by simp) h 13 (by simp)).symm.trans n13) (by decide))
        simp only [putAll]
        go_simp
        have hx := Ext.new (ext_refl w) (.cells #[.int .u8 (kn : Int)] 5)
        refine hK _ _ rfl (fun _ h => h.then hx) ?_
        exact {
          e := I.e.then hx
          c2 := fun _ _ => ⟨_, rfl, rd_lit (w := w) (g := w.heap.size) (C := #[.int .u8 (kn : Int)]) (e := 5) (fz := (0, 0)) (cs := u8s [UInt8.ofNat kn]) rfl HWB.out⟩
          c3 := fun h3 _ => absurd ((show f 3 = true from h3).symm.trans n3) (by decide)
          c7 := fun h7 h8 => (I.c7 h7 h8)
          c8 := fun h8 _ => absurd ((show f 8 = true from h8).symm.trans n8) (by decide)
          c12 := fun h12 h13 => (I.c12 h12 h13)
          c13 := fun h13 _ => absurd ((show f 13 = true from h13).symm.trans n13) (by decide)
          c14 := fun h14 => absurd ((show f 14 = true from h14).symm.trans n14) (by decide)
        }
      · intro f v w hf hd hcl I K hK
        have t2 : f 2 = true := hd 2 (by simp)
        have n8 : f 8 = false := (by cases h : f 8 with | false => rfl | true => exact absurd ((hcl (8, [3, 7]) (by simp) h 3 (by simp)).symm.trans hf) (by decide))
        have n13 : f 13 = false := (by cases h : f 13 with | false => rfl | true => exact absurd ((hcl (13, [8, 12]) (by simp) h 8 (by simp)).symm.trans n8) (by decide))
        have n14 : f 14 = false := (by cases h : f 14 with | false => rfl | true => exact absurd ((hcl (14, [13]) (by simp) h 13 (by simp)).symm.trans n13) (by decide))
        simp only [putAll, dstOf, List.getElem?_toArray, List.getElem?_cons_zero, List.getElem?_cons_succ, Option.bind_some]
        obtain ⟨g, ev, rv⟩ := (I.c2 t2 hf)
        rw [ev]
        have hcv := run_str_rd (P := Tryz.prog) (src := 42) (dst := 9) (e := 5) Tryz.underlying42 Tryz.underlying5 Tryz.underlying9 _ 1 1 [UInt8.ofNat kn] rfl rv (fun h => by cases h)
        rw [← HB0.out] at hcv
        go_simp
        refine hK _ _ rfl (fun _ h => h) ?_
        exact {
          e := I.e
          c2 := fun _ h3 => absurd (show true = false from h3) (by decide)
          c3 := fun _ _ => rfl
          c7 := fun h7 h8 => (I.c7 h7 h8)
          c8 := fun h8 _ => absurd ((show f 8 = true from h8).symm.trans n8) (by decide)
          c12 := fun h12 h13 => (I.c12 h12 h13)
          c13 := fun h13 _ => absurd ((show f 13 = true from h13).symm.trans n13) (by decide)
          c14 := fun h14 => absurd ((show f 14 = true from h14).symm.trans n14) (by decide)
        }
      · intro f v w hf hd hcl I K hK
        have n8 : f 8 = false := (by cases h : f 8 with | false => rfl | true => exact absurd ((hcl (8, [3, 7]) (by simp) h 7 (by simp)).symm.trans hf) (by decide))
        have n12 : f 12 = false := (by cases h : f 12 with | false => rfl | true => exact absurd ((hcl (12, [7]) (by simp) h 7 (by simp)).symm.trans hf) (by decide))
        have n13 : f 13 = false := (by cases h : f 13 with | false => rfl | true => exact absurd ((hcl (13, [8, 12]) (by simp) h 8 (by simp)).symm.trans n8) (by decide))
        have n14 : f 14 = false := (by cases h : f 14 with | false => rfl | true => exact absurd ((hcl (14, [13]) (by simp) h 13 (by simp)).symm.trans n13) (by decide))
        simp only [putAll]
        go_simp
        refine Calls.mono (G1 _) ?_
        rintro e w' ⟨rfl, hx⟩
        refine hK _ _ rfl (fun _ h => h.then hx) ?_
        exact {
          e := I.e.then hx
          c2 := fun h2 h3 => by obtain ⟨g, e, r⟩ := (I.c2 h2 h3); exact ⟨g, e, r.keep hx⟩
          c3 := fun h3 h8 => (I.c3 h3 h8)
          c7 := fun _ _ => rfl
          c8 := fun h8 _ => absurd ((show f 8 = true from h8).symm.trans n8) (by decide)
          c12 := fun h12 _ => absurd ((show f 12 = true from h12).symm.trans n12) (by decide)
          c13 := fun h13 _ => absurd ((show f 13 = true from h13).symm.trans n13) (by decide)
          c14 := fun h14 => absurd ((show f 14 = true from h14).symm.trans n14) (by decide)
        }
      · intro f v w hf hd hcl I K hK
        have t3 : f 3 = true := hd 3 (by simp)
        have t7 : f 7 = true := hd 7 (by simp)
        have t2 : f 2 = true := hcl (3, [2]) (by simp) t3 2 (by simp)
        have n13 : f 13 = false := (by cases h : f 13 with | false => rfl | true => exact absurd ((hcl (13, [8, 12]) (by simp) h 8 (by simp)).symm.trans hf) (by decide))
        have n14 : f 14 = false := (by cases h : f 14 with | false => rfl | true => exact absurd ((hcl (14, [13]) (by simp) h 13 (by simp)).symm.trans n13) (by decide))
        simp only [putAll, dstOf, List.getElem?_toArray, List.getElem?_cons_zero, List.getElem?_cons_succ, Option.bind_some]
        rw [(I.c3 t3 hf), (I.c7 t7 hf)]
        go_simp
        try rw [if_neg (by omega)]
        refine hK _ _ rfl (fun _ h => h) ?_
        exact {
          e := I.e
          c2 := fun _ h3 => absurd ((show f 3 = false from h3).symm.trans t3) (by decide)
          c3 := fun _ h8 => absurd (show true = false from h8) (by decide)
          c7 := fun _ h8 => absurd (show true = false from h8) (by decide)
          c8 := fun _ _ => rfl
          c12 := fun h12 h13 => (I.c12 h12 h13)
          c13 := fun h13 _ => absurd ((show f 13 = true from h13).symm.trans n13) (by decide)
          c14 := fun h14 => absurd ((show f 14 = true from h14).symm.trans n14) (by decide)
        }
      · intro f v w hf hd hcl I K hK
        have t7 : f 7 = true := hd 7 (by simp)
        have n13 : f 13 = false := (by cases h : f 13 with | false => rfl | true => exact absurd ((hcl (13, [8, 12]) (by simp) h 12 (by simp)).symm.trans hf) (by decide))
        have n14 : f 14 = false := (by cases h : f 14 with | false => rfl | true => exact absurd ((hcl (14, [13]) (by simp) h 13 (by simp)).symm.trans n13) (by decide))
        simp only [putAll, dstOf, List.getElem?_toArray, List.getElem?_cons_zero, List.getElem?_cons_succ, Option.bind_some]
        go_simp
        refine Calls.mono (G2 _) ?_
        rintro e w' ⟨rfl, hx⟩
        refine hK _ _ rfl (fun _ h => h.then hx) ?_
        exact {
          e := I.e.then hx
          c2 := fun h2 h3 => by obtain ⟨g, e, r⟩ := (I.c2 h2 h3); exact ⟨g, e, r.keep hx⟩
          c3 := fun h3 h8 => (I.c3 h3 h8)
          c7 := fun h7 h8 => (I.c7 h7 h8)
          c8 := fun h8 h13 => (I.c8 h8 h13)
          c12 := fun _ _ => rfl
          c13 := fun h13 _ => absurd ((show f 13 = true from h13).symm.trans n13) (by decide)
          c14 := fun h14 => absurd ((show f 14 = true from h14).symm.trans n14) (by decide)
        }
      · intro f v w hf hd hcl I K hK
        have t8 : f 8 = true := hd 8 (by simp)
        have t12 : f 12 = true := hd 12 (by simp)
        have t3 : f 3 = true := hcl (8, [3, 7]) (by simp) t8 3 (by simp)
        have t7 : f 7 = true := hcl (8, [3, 7]) (by simp) t8 7 (by simp)
        have t2 : f 2 = true := hcl (3, [2]) (by simp) t3 2 (by simp)
        have n14 : f 14 = false := (by cases h : f 14 with | false => rfl | true => exact absurd ((hcl (14, [13]) (by simp) h 13 (by simp)).symm.trans hf) (by decide))
        simp only [putAll, dstOf, List.getElem?_toArray, List.getElem?_cons_zero, List.getElem?_cons_succ, Option.bind_some]
        rw [(I.c8 t8 hf), (I.c12 t12 hf)]
        go_simp
        try rw [if_neg (by omega)]
        refine hK _ _ rfl (fun _ h => h) ?_
        exact {
          e := I.e
          c2 := fun _ h3 => absurd ((show f 3 = false from h3).symm.trans t3) (by decide)
          c3 := fun _ h8 => absurd ((show f 8 = false from h8).symm.trans t8) (by decide)
          c7 := fun _ h8 => absurd ((show f 8 = false from h8).symm.trans t8) (by decide)
          c8 := fun _ h13 => absurd (show true = false from h13) (by decide)
          c12 := fun _ h13 => absurd (show true = false from h13) (by decide)
          c13 := fun _ _ => rfl
          c14 := fun h14 => absurd ((show f 14 = true from h14).symm.trans n14) (by decide)
        }
      · intro f v w hf hd hcl I K hK
        have t13 : f 13 = true := hd 13 (by simp)
        have t8 : f 8 = true := hcl (13, [8, 12]) (by simp) t13 8 (by simp)
        have t12 : f 12 = true := hcl (13, [8, 12]) (by simp) t13 12 (by simp)
        have t3 : f 3 = true := hcl (8, [3, 7]) (by simp) t8 3 (by simp)
        have t7 : f 7 = true := hcl (8, [3, 7]) (by simp) t8 7 (by simp)
        have t2 : f 2 = true := hcl (3, [2]) (by simp) t3 2 (by simp)
        simp only [putAll, dstOf, List.getElem?_toArray, List.getElem?_cons_zero, List.getElem?_cons_succ, Option.bind_some]
        rw [(I.c13 t13 hf)]
        go_simp
        refine hK _ _ rfl (fun _ h => h) ?_
        exact {
          e := I.e
          c2 := fun _ h3 => absurd ((show f 3 = false from h3).symm.trans t3) (by decide)
          c3 := fun _ h8 => absurd ((show f 8 = false from h8).symm.trans t8) (by decide)
          c7 := fun _ h8 => absurd ((show f 8 = false from h8).symm.trans t8) (by decide)
          c8 := fun _ h13 => absurd ((show f 13 = false from h13).symm.trans t13) (by decide)
          c12 := fun _ h13 => absurd ((show f 13 = false from h13).symm.trans t13) (by decide)
          c13 := fun _ h14 => absurd (show true = false from h14) (by decide)
          c14 := fun _ => rfl
        }
    intro f v w' hall I
    have t14 : f 14 = true := hall 14 (by simp)
    have XI := I.e
    have EV := I.c14 t14
    simp only [putAll, dstOf, List.map_cons, List.map_nil, List.getElem?_toArray, List.getElem?_cons_zero, List.getElem?_cons_succ, Option.bind_some]
    rw [EV]
    clear EV I hall
    clear t14
    replace RC := hid (RC.out.keep XI)
    replace RD := hid (RD.out.keep XI)
    replace Xp := hid (Xp.out.then XI)
    clear XI
    go_wp2_with fail
    refine Calls.mono (HBY.out _ _ _ RC.out) ?_
    rintro e w1 ⟨rfl, hx⟩
    replace Xp := hid (Xp.out.then hx)
    replace RC := hid (RC.out.keep hx)
    replace RD := hid (RD.out.keep hx)
    clear hx 
    go_wp2_with fail
    refine Calls.mono (HSE.out _) ?_
    rintro e w2 ⟨rfl, hx⟩
    replace Xp := hid (Xp.out.then hx)
    clear hx 
    go_wp2
    go_returns
    exact ⟨rfl, Xp.out⟩
  · exact absurd HOK.out h.1
set_option maxRecDepth 100000 in
set_option maxHeartbeats 3200000 in
theorem pgWrite_01 (kind : Int) (l : List Cel) (A : Option Addr) (n cap : Nat) (w : World) (hn : l.length = n) (hr : Rd w A (cls l)) (hok : Cel.cchk kind l = 0) (hl : ∀ x ∈ Pge.nums (Cel.dense l), x < 18446744073709551616) (hs : ¬ (Cel.dense l).length < l.length) (ht : 0 < (Cel.dense l).length) :
    Calls Tryz.prog 9 #[.int .i64 kind, .slice A n cap] w fun e w' => e = .returned (.tuple #[.string ⟨(Pge.sld (Pge.bdy kind l)).toArray⟩, .int .i64 0]) ∧ Ext w w' := by
  have HSP := hid (split_any kind l A n cap w hn hr (by have := (Cel.cchk_iff.1 hok).2.1; omega))
  obtain ⟨g1, g2, g3⟩ := Cel.cchk_iff.1 hok
  have hle := Cel.dense_len l
  obtain ⟨dl, hdl⟩ : ∃ dl, dl = (Cel.dense l).length := ⟨_, rfl⟩
  have hbd := Pge.bdy_len hok hl
  have hwf := Pge.wrds_fit hok
  have hw1 : (Vary.wr n).length ≤ 9 := by rw [Vary.wr_len]; have := Vary.beh_le8 n; omega
  have hw2 : (Vary.wr dl).length ≤ 9 := by rw [Vary.wr_len]; have := Vary.beh_le8 dl; omega
  have hpl := Pge.pck_len hok hl
  have hmk : Pge.mks l = [] := by unfold Pge.mks; rw [if_neg hs]
  have HPK := hid (fun D m c wx (hm : m = dl) (h : Rd wx D (cls (Cel.dense l))) => packed_any kind (Cel.dense l) D m c wx g1 (by rw [hm, hdl]) h (by omega) hl hwf)
  have hdn : Pge.dns kind l = Pge.pck kind (Cel.dense l) := by unfold Pge.dns; rw [if_pos ht]
  have hby : Pge.bdy kind l = UInt8.ofNat kind.toNat :: (Vary.wr n ++ Vary.wr dl ++ Pge.mks l ++ Pge.dns kind l) := by unfold Pge.bdy; rw [hn, ← hdl]
  rw [hmk, hdn] at hby
  have G1 : Gives Tryz.prog 19 #[.int .u64 n] (.string ⟨(Vary.wr n).toArray⟩) := fun wx => write_any n wx (by omega)
  have G2 : Gives Tryz.prog 19 #[.int .u64 dl] (.string ⟨(Vary.wr dl).toArray⟩) := fun wx => write_any dl wx (by omega)
  obtain ⟨kn, hkn⟩ : ∃ kn : Nat, kind = (kn : Int) ∧ (kn = 1 ∨ kn = 2) := by rcases g1 with rfl | rfl; exact ⟨1, rfl, .inl rfl⟩; exact ⟨2, rfl, .inr rfl⟩
  obtain ⟨rfl, hkk⟩ := hkn
  rw [Int.toNat_natCast] at hby
  obtain ⟨X0, hX0⟩ : ∃ S : ByteArray, S = ⟨[UInt8.ofNat kn].toArray⟩ := ⟨_, rfl⟩
  obtain ⟨X1, hX1⟩ : ∃ S : ByteArray, S = ⟨(Vary.wr n).toArray⟩ := ⟨_, rfl⟩
  obtain ⟨X2, hX2⟩ : ∃ S : ByteArray, S = ⟨(Vary.wr dl).toArray⟩ := ⟨_, rfl⟩
  obtain ⟨X4, hX4⟩ : ∃ S : ByteArray, S = ⟨(Pge.pck (kn : Int) (Cel.dense l)).toArray⟩ := ⟨_, rfl⟩
  have hz4 : X4.size ≤ 2001 := by rw [hX4, str_size]; exact hpl
  rw [← hX4] at HPK
  have hz0 : X0.size = 1 := by rw [hX0]; rfl
  have hz1 : X1.size ≤ 9 := by rw [hX1, str_size]; exact hw1
  have hz2 : X2.size ≤ 9 := by rw [hX2, str_size]; exact hw2
  rw [← hX1] at G1
  rw [← hX2] at G2
  have hVV : X0 ++ X1 ++ X2 ++ X4 = ⟨(Pge.bdy (kn : Int) l).toArray⟩ := by
    rw [hby, hX0, hX1, hX2, hX4]
    simp only [str_app]
    simp
  have HSE := hid (fun wx => sealed_any (X0 ++ X1 ++ X2 ++ X4) wx (by rw [hVV, str_size]; omega))
  rw [show (X0 ++ X1 ++ X2 ++ X4).data.toList = Pge.bdy (kn : Int) l by rw [hVV]] at HSE
  have HB0 := hid hX0
  have HWB := hid (Cod.byte_u8 kn (by omega))
  have hwk : IntKind.u8.wrap (kn : Int) = (kn : Int) := by rw [IntKind.wrap_u8]; omega
  have hnI : (n : Int) ≤ 64 := by omega
  have hdI : (dl : Int) ≤ 64 := by omega
  have hdn1 : ¬ (dl : Int) < (n : Int) := by omega
  have hdn2 : (0 : Int) < (dl : Int) := by omega
  have hkI : (kn : Int) ≤ 2 := by omega
  have HLN := hid hn
  have HDL := hid hdl
  generalize Pge.sld (Pge.bdy (kn : Int) l) = SS at *
  have HOK := hid hok
  clear hVV hby hX0 hX1 hX2 hX4 hw1 hw2 hpl hbd hwf hle g1 g2 g3 hok hl hn hr hmk hdn hdl hkk hs ht
  unfold SplitOut at HSP
  go_enter Tryz.func9, Tryz.ntmps9
  go_wp2_with fail
  refine Calls.mono HSP.out ?_
  rintro e w1 ⟨C, n', c, D, m', d, rfl, hx, hc, hd, h | h⟩
  · obtain ⟨h0, rfl, hm', h1, h2⟩ := h
    rw [h0]
    rw [HLN.out]
    rw [HLN.out] at hc
    obtain rfl : m' = dl := by rw [hm', HDL.out]
    have RC := hid h1
    have RD := hid h2
    have Xp := hid hx
    clear h0 h1 h2 hx hc hd hm'
    go_wp2
    refine wp_region_inv [] [0, 1, 4, 5, 6, 9, 10, 11] [(2, []), (3, [2]), (7, []), (8, [3, 7]), (12, [7]), (13, [8, 12]), (14, [13])] (by kernel_rfl) (by kernel_rfl) (fun _ _ _ _ _ h => h) (by kernel_rfl) (by kernel_rfl) (by rfl) ?_
    simp only [List.filterMap_cons, List.filterMap_nil, List.getElem?_toArray, List.getElem?_cons_zero, List.getElem?_cons_succ, Option.map_some]
    repeat (refine wpQ_val (by rfl) ?_; intro K hK; go_big_quiet_op; go_big_quiet_on)
    refine wpQ_nil ?_
    refine ⟨fun f v w => WrInv w1 X0 X1 X2 kn f v w, by rfl, ?_, ?_, ?_⟩
    · exact ⟨(ext_refl w1).draw, fun h _ => absurd h (by decide), fun h _ => absurd h (by decide), fun h _ => absurd h (by decide), fun h _ => absurd h (by decide), fun h _ => absurd h (by decide), fun h _ => absurd h (by decide), fun h => absurd h (by decide)⟩
    · refine ⟨?_, ?_, ?_, ?_, ?_, ?_, ?_, trivial⟩
      · intro f v w hf hd hcl I K hK
        have n3 : f 3 = false := (by cases h : f 3 with | false => rfl | true => exact absurd ((hcl (3, [2]) (by simp) h 2 (by simp)).symm.trans hf) (by decide))
        have n8 : f 8 = false := (by cases h : f 8 with | false => rfl | true => exact absurd ((hcl (8, [3, 7]) (by simp) h 3 (by simp)).symm.trans n3) (by decide))
        have n13 : f 13 = false := (by cases h : f 13 with | false => rfl | true => exact absurd ((hcl (13, [8, 12]) (by simp) h 8 (by simp)).symm.trans n8) (by decide))
        have n14 : f 14 = false := (by cases h : f 14 with | false => rfl | true => exact absurd ((hcl (14, [13]) (by simp) h 13 (by simp)).symm.trans n13) (by decide))
        simp only [putAll]
        go_simp
        have hx := Ext.new (ext_refl w) (.cells #[.int .u8 (kn : Int)] 5)
        refine hK _ _ rfl (fun _ h => h.then hx) ?_
        exact {
          e := I.e.then hx
          c2 := fun _ _ => ⟨_, rfl, rd_lit (w := w) (g := w.heap.size) (C := #[.int .u8 (kn : Int)]) (e := 5) (fz := (0, 0)) (cs := u8s [UInt8.ofNat kn]) rfl HWB.out⟩
          c3 := fun h3 _ => absurd ((show f 3 = true from h3).symm.trans n3) (by decide)
          c7 := fun h7 h8 => (I.c7 h7 h8)
          c8 := fun h8 _ => absurd ((show f 8 = true from h8).symm.trans n8) (by decide)
          c12 := fun h12 h13 => (I.c12 h12 h13)
          c13 := fun h13 _ => absurd ((show f 13 = true from h13).symm.trans n13) (by decide)
          c14 := fun h14 => absurd ((show f 14 = true from h14).symm.trans n14) (by decide)
        }
      · intro f v w hf hd hcl I K hK
        have t2 : f 2 = true := hd 2 (by simp)
        have n8 : f 8 = false := (by cases h : f 8 with | false => rfl | true => exact absurd ((hcl (8, [3, 7]) (by simp) h 3 (by simp)).symm.trans hf) (by decide))
        have n13 : f 13 = false := (by cases h : f 13 with | false => rfl | true => exact absurd ((hcl (13, [8, 12]) (by simp) h 8 (by simp)).symm.trans n8) (by decide))
        have n14 : f 14 = false := (by cases h : f 14 with | false => rfl | true => exact absurd ((hcl (14, [13]) (by simp) h 13 (by simp)).symm.trans n13) (by decide))
        simp only [putAll, dstOf, List.getElem?_toArray, List.getElem?_cons_zero, List.getElem?_cons_succ, Option.bind_some]
        obtain ⟨g, ev, rv⟩ := (I.c2 t2 hf)
        rw [ev]
        have hcv := run_str_rd (P := Tryz.prog) (src := 42) (dst := 9) (e := 5) Tryz.underlying42 Tryz.underlying5 Tryz.underlying9 _ 1 1 [UInt8.ofNat kn] rfl rv (fun h => by cases h)
        rw [← HB0.out] at hcv
        go_simp
        refine hK _ _ rfl (fun _ h => h) ?_
        exact {
          e := I.e
          c2 := fun _ h3 => absurd (show true = false from h3) (by decide)
          c3 := fun _ _ => rfl
          c7 := fun h7 h8 => (I.c7 h7 h8)
          c8 := fun h8 _ => absurd ((show f 8 = true from h8).symm.trans n8) (by decide)
          c12 := fun h12 h13 => (I.c12 h12 h13)
          c13 := fun h13 _ => absurd ((show f 13 = true from h13).symm.trans n13) (by decide)
          c14 := fun h14 => absurd ((show f 14 = true from h14).symm.trans n14) (by decide)
        }
      · intro f v w hf hd hcl I K hK
        have n8 : f 8 = false := (by cases h : f 8 with | false => rfl | true => exact absurd ((hcl (8, [3, 7]) (by simp) h 7 (by simp)).symm.trans hf) (by decide))
        have n12 : f 12 = false := (by cases h : f 12 with | false => rfl | true => exact absurd ((hcl (12, [7]) (by simp) h 7 (by simp)).symm.trans hf) (by decide))
        have n13 : f 13 = false := (by cases h : f 13 with | false => rfl | true => exact absurd ((hcl (13, [8, 12]) (by simp) h 8 (by simp)).symm.trans n8) (by decide))
        have n14 : f 14 = false := (by cases h : f 14 with | false => rfl | true => exact absurd ((hcl (14, [13]) (by simp) h 13 (by simp)).symm.trans n13) (by decide))
        simp only [putAll]
        go_simp
        refine Calls.mono (G1 _) ?_
        rintro e w' ⟨rfl, hx⟩
        refine hK _ _ rfl (fun _ h => h.then hx) ?_
        exact {
          e := I.e.then hx
          c2 := fun h2 h3 => by obtain ⟨g, e, r⟩ := (I.c2 h2 h3); exact ⟨g, e, r.keep hx⟩
          c3 := fun h3 h8 => (I.c3 h3 h8)
          c7 := fun _ _ => rfl
          c8 := fun h8 _ => absurd ((show f 8 = true from h8).symm.trans n8) (by decide)
          c12 := fun h12 _ => absurd ((show f 12 = true from h12).symm.trans n12) (by decide)
          c13 := fun h13 _ => absurd ((show f 13 = true from h13).symm.trans n13) (by decide)
          c14 := fun h14 => absurd ((show f 14 = true from h14).symm.trans n14) (by decide)
        }
      · intro f v w hf hd hcl I K hK
        have t3 : f 3 = true := hd 3 (by simp)
        have t7 : f 7 = true := hd 7 (by simp)
        have t2 : f 2 = true := hcl (3, [2]) (by simp) t3 2 (by simp)
        have n13 : f 13 = false := (by cases h : f 13 with | false => rfl | true => exact absurd ((hcl (13, [8, 12]) (by simp) h 8 (by simp)).symm.trans hf) (by decide))
        have n14 : f 14 = false := (by cases h : f 14 with | false => rfl | true => exact absurd ((hcl (14, [13]) (by simp) h 13 (by simp)).symm.trans n13) (by decide))
        simp only [putAll, dstOf, List.getElem?_toArray, List.getElem?_cons_zero, List.getElem?_cons_succ, Option.bind_some]
        rw [(I.c3 t3 hf), (I.c7 t7 hf)]
        go_simp
        try rw [if_neg (by omega)]
        refine hK _ _ rfl (fun _ h => h) ?_
        exact {
          e := I.e
          c2 := fun _ h3 => absurd ((show f 3 = false from h3).symm.trans t3) (by decide)
          c3 := fun _ h8 => absurd (show true = false from h8) (by decide)
          c7 := fun _ h8 => absurd (show true = false from h8) (by decide)
          c8 := fun _ _ => rfl
          c12 := fun h12 h13 => (I.c12 h12 h13)
          c13 := fun h13 _ => absurd ((show f 13 = true from h13).symm.trans n13) (by decide)
          c14 := fun h14 => absurd ((show f 14 = true from h14).symm.trans n14) (by decide)
        }
      · intro f v w hf hd hcl I K hK
        have t7 : f 7 = true := hd 7 (by simp)
        have n13 : f 13 = false := (by cases h : f 13 with | false => rfl | true => exact absurd ((hcl (13, [8, 12]) (by simp) h 12 (by simp)).symm.trans hf) (by decide))
        have n14 : f 14 = false := (by cases h : f 14 with | false => rfl | true => exact absurd ((hcl (14, [13]) (by simp) h 13 (by simp)).symm.trans n13) (by decide))
        simp only [putAll, dstOf, List.getElem?_toArray, List.getElem?_cons_zero, List.getElem?_cons_succ, Option.bind_some]
        go_simp
        refine Calls.mono (G2 _) ?_
        rintro e w' ⟨rfl, hx⟩
        refine hK _ _ rfl (fun _ h => h.then hx) ?_
        exact {
          e := I.e.then hx
          c2 := fun h2 h3 => by obtain ⟨g, e, r⟩ := (I.c2 h2 h3); exact ⟨g, e, r.keep hx⟩
          c3 := fun h3 h8 => (I.c3 h3 h8)
          c7 := fun h7 h8 => (I.c7 h7 h8)
          c8 := fun h8 h13 => (I.c8 h8 h13)
          c12 := fun _ _ => rfl
          c13 := fun h13 _ => absurd ((show f 13 = true from h13).symm.trans n13) (by decide)
          c14 := fun h14 => absurd ((show f 14 = true from h14).symm.trans n14) (by decide)
        }
      · intro f v w hf hd hcl I K hK
        have t8 : f 8 = true := hd 8 (by simp)
        have t12 : f 12 = true := hd 12 (by simp)
        have t3 : f 3 = true := hcl (8, [3, 7]) (by simp) t8 3 (by simp)
        have t7 : f 7 = true := hcl (8, [3, 7]) (by simp) t8 7 (by simp)
        have t2 : f 2 = true := hcl (3, [2]) (by simp) t3 2 (by simp)
        have n14 : f 14 = false := (by cases h : f 14 with | false => rfl | true => exact absurd ((hcl (14, [13]) (by simp) h 13 (by simp)).symm.trans hf) (by decide))
        simp only [putAll, dstOf, List.getElem?_toArray, List.getElem?_cons_zero, List.getElem?_cons_succ, Option.bind_some]
        rw [(I.c8 t8 hf), (I.c12 t12 hf)]
        go_simp
        try rw [if_neg (by omega)]
        refine hK _ _ rfl (fun _ h => h) ?_
        exact {
          e := I.e
          c2 := fun _ h3 => absurd ((show f 3 = false from h3).symm.trans t3) (by decide)
          c3 := fun _ h8 => absurd ((show f 8 = false from h8).symm.trans t8) (by decide)
          c7 := fun _ h8 => absurd ((show f 8 = false from h8).symm.trans t8) (by decide)
          c8 := fun _ h13 => absurd (show true = false from h13) (by decide)
          c12 := fun _ h13 => absurd (show true = false from h13) (by decide)
          c13 := fun _ _ => rfl
          c14 := fun h14 => absurd ((show f 14 = true from h14).symm.trans n14) (by decide)
        }
      · intro f v w hf hd hcl I K hK
        have t13 : f 13 = true := hd 13 (by simp)
        have t8 : f 8 = true := hcl (13, [8, 12]) (by simp) t13 8 (by simp)
        have t12 : f 12 = true := hcl (13, [8, 12]) (by simp) t13 12 (by simp)
        have t3 : f 3 = true := hcl (8, [3, 7]) (by simp) t8 3 (by simp)
        have t7 : f 7 = true := hcl (8, [3, 7]) (by simp) t8 7 (by simp)
        have t2 : f 2 = true := hcl (3, [2]) (by simp) t3 2 (by simp)
        simp only [putAll, dstOf, List.getElem?_toArray, List.getElem?_cons_zero, List.getElem?_cons_succ, Option.bind_some]
        rw [(I.c13 t13 hf)]
        go_simp
        refine hK _ _ rfl (fun _ h => h) ?_
        exact {
          e := I.e
          c2 := fun _ h3 => absurd ((show f 3 = false from h3).symm.trans t3) (by decide)
          c3 := fun _ h8 => absurd ((show f 8 = false from h8).symm.trans t8) (by decide)
          c7 := fun _ h8 => absurd ((show f 8 = false from h8).symm.trans t8) (by decide)
          c8 := fun _ h13 => absurd ((show f 13 = false from h13).symm.trans t13) (by decide)
          c12 := fun _ h13 => absurd ((show f 13 = false from h13).symm.trans t13) (by decide)
          c13 := fun _ h14 => absurd (show true = false from h14) (by decide)
          c14 := fun _ => rfl
        }
    intro f v w' hall I
    have t14 : f 14 = true := hall 14 (by simp)
    have XI := I.e
    have EV := I.c14 t14
    simp only [putAll, dstOf, List.map_cons, List.map_nil, List.getElem?_toArray, List.getElem?_cons_zero, List.getElem?_cons_succ, Option.bind_some]
    rw [EV]
    clear EV I hall
    clear t14
    replace RC := hid (RC.out.keep XI)
    replace RD := hid (RD.out.keep XI)
    replace Xp := hid (Xp.out.then XI)
    clear XI
    go_wp2_with fail
    refine Calls.mono (HPK.out _ _ _ _ rfl RD.out) ?_
    rintro e w1 ⟨rfl, hx⟩
    replace Xp := hid (Xp.out.then hx)
    replace RD := hid (RD.out.keep hx)
    clear hx 
    go_wp2_with fail
    refine Calls.mono (HSE.out _) ?_
    rintro e w2 ⟨rfl, hx⟩
    replace Xp := hid (Xp.out.then hx)
    clear hx 
    go_wp2
    go_returns
    exact ⟨rfl, Xp.out⟩
  · exact absurd HOK.out h.1
set_option maxRecDepth 100000 in
set_option maxHeartbeats 3200000 in
theorem pgWrite_00 (kind : Int) (l : List Cel) (A : Option Addr) (n cap : Nat) (w : World) (hn : l.length = n) (hr : Rd w A (cls l)) (hok : Cel.cchk kind l = 0) (hl : ∀ x ∈ Pge.nums (Cel.dense l), x < 18446744073709551616) (hs : ¬ (Cel.dense l).length < l.length) (ht : ¬ 0 < (Cel.dense l).length) :
    Calls Tryz.prog 9 #[.int .i64 kind, .slice A n cap] w fun e w' => e = .returned (.tuple #[.string ⟨(Pge.sld (Pge.bdy kind l)).toArray⟩, .int .i64 0]) ∧ Ext w w' := by
  have HSP := hid (split_any kind l A n cap w hn hr (by have := (Cel.cchk_iff.1 hok).2.1; omega))
  obtain ⟨g1, g2, g3⟩ := Cel.cchk_iff.1 hok
  have hle := Cel.dense_len l
  obtain ⟨dl, hdl⟩ : ∃ dl, dl = (Cel.dense l).length := ⟨_, rfl⟩
  have hbd := Pge.bdy_len hok hl
  have hwf := Pge.wrds_fit hok
  have hw1 : (Vary.wr n).length ≤ 9 := by rw [Vary.wr_len]; have := Vary.beh_le8 n; omega
  have hw2 : (Vary.wr dl).length ≤ 9 := by rw [Vary.wr_len]; have := Vary.beh_le8 dl; omega
  have hpl := Pge.pck_len hok hl
  have hmk : Pge.mks l = [] := by unfold Pge.mks; rw [if_neg hs]
  have hdn : Pge.dns kind l = [] := by unfold Pge.dns; rw [if_neg ht]
  have hby : Pge.bdy kind l = UInt8.ofNat kind.toNat :: (Vary.wr n ++ Vary.wr dl ++ Pge.mks l ++ Pge.dns kind l) := by unfold Pge.bdy; rw [hn, ← hdl]
  rw [hmk, hdn] at hby
  have G1 : Gives Tryz.prog 19 #[.int .u64 n] (.string ⟨(Vary.wr n).toArray⟩) := fun wx => write_any n wx (by omega)
  have G2 : Gives Tryz.prog 19 #[.int .u64 dl] (.string ⟨(Vary.wr dl).toArray⟩) := fun wx => write_any dl wx (by omega)
  obtain ⟨kn, hkn⟩ : ∃ kn : Nat, kind = (kn : Int) ∧ (kn = 1 ∨ kn = 2) := by rcases g1 with rfl | rfl; exact ⟨1, rfl, .inl rfl⟩; exact ⟨2, rfl, .inr rfl⟩
  obtain ⟨rfl, hkk⟩ := hkn
  rw [Int.toNat_natCast] at hby
  obtain ⟨X0, hX0⟩ : ∃ S : ByteArray, S = ⟨[UInt8.ofNat kn].toArray⟩ := ⟨_, rfl⟩
  obtain ⟨X1, hX1⟩ : ∃ S : ByteArray, S = ⟨(Vary.wr n).toArray⟩ := ⟨_, rfl⟩
  obtain ⟨X2, hX2⟩ : ∃ S : ByteArray, S = ⟨(Vary.wr dl).toArray⟩ := ⟨_, rfl⟩
  have hz0 : X0.size = 1 := by rw [hX0]; rfl
  have hz1 : X1.size ≤ 9 := by rw [hX1, str_size]; exact hw1
  have hz2 : X2.size ≤ 9 := by rw [hX2, str_size]; exact hw2
  rw [← hX1] at G1
  rw [← hX2] at G2
  have hVV : X0 ++ X1 ++ X2 = ⟨(Pge.bdy (kn : Int) l).toArray⟩ := by
    rw [hby, hX0, hX1, hX2]
    simp only [str_app]
    simp
  have HSE := hid (fun wx => sealed_any (X0 ++ X1 ++ X2) wx (by rw [hVV, str_size]; omega))
  rw [show (X0 ++ X1 ++ X2).data.toList = Pge.bdy (kn : Int) l by rw [hVV]] at HSE
  have HB0 := hid hX0
  have HWB := hid (Cod.byte_u8 kn (by omega))
  have hwk : IntKind.u8.wrap (kn : Int) = (kn : Int) := by rw [IntKind.wrap_u8]; omega
  have hnI : (n : Int) ≤ 64 := by omega
  have hdI : (dl : Int) ≤ 64 := by omega
  have hdn1 : ¬ (dl : Int) < (n : Int) := by omega
  have hdn2 : ¬ (0 : Int) < (dl : Int) := by omega
  have hkI : (kn : Int) ≤ 2 := by omega
  have HLN := hid hn
  have HDL := hid hdl
  generalize Pge.sld (Pge.bdy (kn : Int) l) = SS at *
  have HOK := hid hok
  clear hVV hby hX0 hX1 hX2 hw1 hw2 hpl hbd hwf hle g1 g2 g3 hok hl hn hr hmk hdn hdl hkk hs ht
  unfold SplitOut at HSP
  go_enter Tryz.func9, Tryz.ntmps9
  go_wp2_with fail
  refine Calls.mono HSP.out ?_
  rintro e w1 ⟨C, n', c, D, m', d, rfl, hx, hc, hd, h | h⟩
  · obtain ⟨h0, rfl, hm', h1, h2⟩ := h
    rw [h0]
    rw [HLN.out]
    rw [HLN.out] at hc
    obtain rfl : m' = dl := by rw [hm', HDL.out]
    have RC := hid h1
    have RD := hid h2
    have Xp := hid hx
    clear h0 h1 h2 hx hc hd hm'
    go_wp2
    refine wp_region_inv [] [0, 1, 4, 5, 6, 9, 10, 11] [(2, []), (3, [2]), (7, []), (8, [3, 7]), (12, [7]), (13, [8, 12]), (14, [13])] (by kernel_rfl) (by kernel_rfl) (fun _ _ _ _ _ h => h) (by kernel_rfl) (by kernel_rfl) (by rfl) ?_
    simp only [List.filterMap_cons, List.filterMap_nil, List.getElem?_toArray, List.getElem?_cons_zero, List.getElem?_cons_succ, Option.map_some]
    repeat (refine wpQ_val (by rfl) ?_; intro K hK; go_big_quiet_op; go_big_quiet_on)
    refine wpQ_nil ?_
    refine ⟨fun f v w => WrInv w1 X0 X1 X2 kn f v w, by rfl, ?_, ?_, ?_⟩
    · exact ⟨(ext_refl w1).draw, fun h _ => absurd h (by decide), fun h _ => absurd h (by decide), fun h _ => absurd h (by decide), fun h _ => absurd h (by decide), fun h _ => absurd h (by decide), fun h _ => absurd h (by decide), fun h => absurd h (by decide)⟩
    · refine ⟨?_, ?_, ?_, ?_, ?_, ?_, ?_, trivial⟩
      · intro f v w hf hd hcl I K hK
        have n3 : f 3 = false := (by cases h : f 3 with | false => rfl | true => exact absurd ((hcl (3, [2]) (by simp) h 2 (by simp)).symm.trans hf) (by decide))
        have n8 : f 8 = false := (by cases h : f 8 with | false => rfl | true => exact absurd ((hcl (8, [3, 7]) (by simp) h 3 (by simp)).symm.trans n3) (by decide))
        have n13 : f 13 = false := (by cases h : f 13 with | false => rfl | true => exact absurd ((hcl (13, [8, 12]) (by simp) h 8 (by simp)).symm.trans n8) (by decide))
        have n14 : f 14 = false := (by cases h : f 14 with | false => rfl | true => exact absurd ((hcl (14, [13]) (by simp) h 13 (by simp)).symm.trans n13) (by decide))
        simp only [putAll]
        go_simp
        have hx := Ext.new (ext_refl w) (.cells #[.int .u8 (kn : Int)] 5)
        refine hK _ _ rfl (fun _ h => h.then hx) ?_
        exact {
          e := I.e.then hx
          c2 := fun _ _ => ⟨_, rfl, rd_lit (w := w) (g := w.heap.size) (C := #[.int .u8 (kn : Int)]) (e := 5) (fz := (0, 0)) (cs := u8s [UInt8.ofNat kn]) rfl HWB.out⟩
          c3 := fun h3 _ => absurd ((show f 3 = true from h3).symm.trans n3) (by decide)
          c7 := fun h7 h8 => (I.c7 h7 h8)
          c8 := fun h8 _ => absurd ((show f 8 = true from h8).symm.trans n8) (by decide)
          c12 := fun h12 h13 => (I.c12 h12 h13)
          c13 := fun h13 _ => absurd ((show f 13 = true from h13).symm.trans n13) (by decide)
          c14 := fun h14 => absurd ((show f 14 = true from h14).symm.trans n14) (by decide)
        }
      · intro f v w hf hd hcl I K hK
        have t2 : f 2 = true := hd 2 (by simp)
        have n8 : f 8 = false := (by cases h : f 8 with | false => rfl | true => exact absurd ((hcl (8, [3, 7]) (by simp) h 3 (by simp)).symm.trans hf) (by decide))
        have n13 : f 13 = false := (by cases h : f 13 with | false => rfl | true => exact absurd ((hcl (13, [8, 12]) (by simp) h 8 (by simp)).symm.trans n8) (by decide))
        have n14 : f 14 = false := (by cases h : f 14 with | false => rfl | true => exact absurd ((hcl (14, [13]) (by simp) h 13 (by simp)).symm.trans n13) (by decide))
        simp only [putAll, dstOf, List.getElem?_toArray, List.getElem?_cons_zero, List.getElem?_cons_succ, Option.bind_some]
        obtain ⟨g, ev, rv⟩ := (I.c2 t2 hf)
        rw [ev]
        have hcv := run_str_rd (P := Tryz.prog) (src := 42) (dst := 9) (e := 5) Tryz.underlying42 Tryz.underlying5 Tryz.underlying9 _ 1 1 [UInt8.ofNat kn] rfl rv (fun h => by cases h)
        rw [← HB0.out] at hcv
        go_simp
        refine hK _ _ rfl (fun _ h => h) ?_
        exact {
          e := I.e
          c2 := fun _ h3 => absurd (show true = false from h3) (by decide)
          c3 := fun _ _ => rfl
          c7 := fun h7 h8 => (I.c7 h7 h8)
          c8 := fun h8 _ => absurd ((show f 8 = true from h8).symm.trans n8) (by decide)
          c12 := fun h12 h13 => (I.c12 h12 h13)
          c13 := fun h13 _ => absurd ((show f 13 = true from h13).symm.trans n13) (by decide)
          c14 := fun h14 => absurd ((show f 14 = true from h14).symm.trans n14) (by decide)
        }
      · intro f v w hf hd hcl I K hK
        have n8 : f 8 = false := (by cases h : f 8 with | false => rfl | true => exact absurd ((hcl (8, [3, 7]) (by simp) h 7 (by simp)).symm.trans hf) (by decide))
        have n12 : f 12 = false := (by cases h : f 12 with | false => rfl | true => exact absurd ((hcl (12, [7]) (by simp) h 7 (by simp)).symm.trans hf) (by decide))
        have n13 : f 13 = false := (by cases h : f 13 with | false => rfl | true => exact absurd ((hcl (13, [8, 12]) (by simp) h 8 (by simp)).symm.trans n8) (by decide))
        have n14 : f 14 = false := (by cases h : f 14 with | false => rfl | true => exact absurd ((hcl (14, [13]) (by simp) h 13 (by simp)).symm.trans n13) (by decide))
        simp only [putAll]
        go_simp
        refine Calls.mono (G1 _) ?_
        rintro e w' ⟨rfl, hx⟩
        refine hK _ _ rfl (fun _ h => h.then hx) ?_
        exact {
          e := I.e.then hx
          c2 := fun h2 h3 => by obtain ⟨g, e, r⟩ := (I.c2 h2 h3); exact ⟨g, e, r.keep hx⟩
          c3 := fun h3 h8 => (I.c3 h3 h8)
          c7 := fun _ _ => rfl
          c8 := fun h8 _ => absurd ((show f 8 = true from h8).symm.trans n8) (by decide)
          c12 := fun h12 _ => absurd ((show f 12 = true from h12).symm.trans n12) (by decide)
          c13 := fun h13 _ => absurd ((show f 13 = true from h13).symm.trans n13) (by decide)
          c14 := fun h14 => absurd ((show f 14 = true from h14).symm.trans n14) (by decide)
        }
      · intro f v w hf hd hcl I K hK
        have t3 : f 3 = true := hd 3 (by simp)
        have t7 : f 7 = true := hd 7 (by simp)
        have t2 : f 2 = true := hcl (3, [2]) (by simp) t3 2 (by simp)
        have n13 : f 13 = false := (by cases h : f 13 with | false => rfl | true => exact absurd ((hcl (13, [8, 12]) (by simp) h 8 (by simp)).symm.trans hf) (by decide))
        have n14 : f 14 = false := (by cases h : f 14 with | false => rfl | true => exact absurd ((hcl (14, [13]) (by simp) h 13 (by simp)).symm.trans n13) (by decide))
        simp only [putAll, dstOf, List.getElem?_toArray, List.getElem?_cons_zero, List.getElem?_cons_succ, Option.bind_some]
        rw [(I.c3 t3 hf), (I.c7 t7 hf)]
        go_simp
        try rw [if_neg (by omega)]
        refine hK _ _ rfl (fun _ h => h) ?_
        exact {
          e := I.e
          c2 := fun _ h3 => absurd ((show f 3 = false from h3).symm.trans t3) (by decide)
          c3 := fun _ h8 => absurd (show true = false from h8) (by decide)
          c7 := fun _ h8 => absurd (show true = false from h8) (by decide)
          c8 := fun _ _ => rfl
          c12 := fun h12 h13 => (I.c12 h12 h13)
          c13 := fun h13 _ => absurd ((show f 13 = true from h13).symm.trans n13) (by decide)
          c14 := fun h14 => absurd ((show f 14 = true from h14).symm.trans n14) (by decide)
        }
      · intro f v w hf hd hcl I K hK
        have t7 : f 7 = true := hd 7 (by simp)
        have n13 : f 13 = false := (by cases h : f 13 with | false => rfl | true => exact absurd ((hcl (13, [8, 12]) (by simp) h 12 (by simp)).symm.trans hf) (by decide))
        have n14 : f 14 = false := (by cases h : f 14 with | false => rfl | true => exact absurd ((hcl (14, [13]) (by simp) h 13 (by simp)).symm.trans n13) (by decide))
        simp only [putAll, dstOf, List.getElem?_toArray, List.getElem?_cons_zero, List.getElem?_cons_succ, Option.bind_some]
        go_simp
        refine Calls.mono (G2 _) ?_
        rintro e w' ⟨rfl, hx⟩
        refine hK _ _ rfl (fun _ h => h.then hx) ?_
        exact {
          e := I.e.then hx
          c2 := fun h2 h3 => by obtain ⟨g, e, r⟩ := (I.c2 h2 h3); exact ⟨g, e, r.keep hx⟩
          c3 := fun h3 h8 => (I.c3 h3 h8)
          c7 := fun h7 h8 => (I.c7 h7 h8)
          c8 := fun h8 h13 => (I.c8 h8 h13)
          c12 := fun _ _ => rfl
          c13 := fun h13 _ => absurd ((show f 13 = true from h13).symm.trans n13) (by decide)
          c14 := fun h14 => absurd ((show f 14 = true from h14).symm.trans n14) (by decide)
        }
      · intro f v w hf hd hcl I K hK
        have t8 : f 8 = true := hd 8 (by simp)
        have t12 : f 12 = true := hd 12 (by simp)
        have t3 : f 3 = true := hcl (8, [3, 7]) (by simp) t8 3 (by simp)
        have t7 : f 7 = true := hcl (8, [3, 7]) (by simp) t8 7 (by simp)
        have t2 : f 2 = true := hcl (3, [2]) (by simp) t3 2 (by simp)
        have n14 : f 14 = false := (by cases h : f 14 with | false => rfl | true => exact absurd ((hcl (14, [13]) (by simp) h 13 (by simp)).symm.trans hf) (by decide))
        simp only [putAll, dstOf, List.getElem?_toArray, List.getElem?_cons_zero, List.getElem?_cons_succ, Option.bind_some]
        rw [(I.c8 t8 hf), (I.c12 t12 hf)]
        go_simp
        try rw [if_neg (by omega)]
        refine hK _ _ rfl (fun _ h => h) ?_
        exact {
          e := I.e
          c2 := fun _ h3 => absurd ((show f 3 = false from h3).symm.trans t3) (by decide)
          c3 := fun _ h8 => absurd ((show f 8 = false from h8).symm.trans t8) (by decide)
          c7 := fun _ h8 => absurd ((show f 8 = false from h8).symm.trans t8) (by decide)
          c8 := fun _ h13 => absurd (show true = false from h13) (by decide)
          c12 := fun _ h13 => absurd (show true = false from h13) (by decide)
          c13 := fun _ _ => rfl
          c14 := fun h14 => absurd ((show f 14 = true from h14).symm.trans n14) (by decide)
        }
      · intro f v w hf hd hcl I K hK
        have t13 : f 13 = true := hd 13 (by simp)
        have t8 : f 8 = true := hcl (13, [8, 12]) (by simp) t13 8 (by simp)
        have t12 : f 12 = true := hcl (13, [8, 12]) (by simp) t13 12 (by simp)
        have t3 : f 3 = true := hcl (8, [3, 7]) (by simp) t8 3 (by simp)
        have t7 : f 7 = true := hcl (8, [3, 7]) (by simp) t8 7 (by simp)
        have t2 : f 2 = true := hcl (3, [2]) (by simp) t3 2 (by simp)
        simp only [putAll, dstOf, List.getElem?_toArray, List.getElem?_cons_zero, List.getElem?_cons_succ, Option.bind_some]
        rw [(I.c13 t13 hf)]
        go_simp
        refine hK _ _ rfl (fun _ h => h) ?_
        exact {
          e := I.e
          c2 := fun _ h3 => absurd ((show f 3 = false from h3).symm.trans t3) (by decide)
          c3 := fun _ h8 => absurd ((show f 8 = false from h8).symm.trans t8) (by decide)
          c7 := fun _ h8 => absurd ((show f 8 = false from h8).symm.trans t8) (by decide)
          c8 := fun _ h13 => absurd ((show f 13 = false from h13).symm.trans t13) (by decide)
          c12 := fun _ h13 => absurd ((show f 13 = false from h13).symm.trans t13) (by decide)
          c13 := fun _ h14 => absurd (show true = false from h14) (by decide)
          c14 := fun _ => rfl
        }
    intro f v w' hall I
    have t14 : f 14 = true := hall 14 (by simp)
    have XI := I.e
    have EV := I.c14 t14
    simp only [putAll, dstOf, List.map_cons, List.map_nil, List.getElem?_toArray, List.getElem?_cons_zero, List.getElem?_cons_succ, Option.bind_some]
    rw [EV]
    clear EV I hall
    clear t14
    replace RC := hid (RC.out.keep XI)
    replace RD := hid (RD.out.keep XI)
    replace Xp := hid (Xp.out.then XI)
    clear XI
    go_wp2_with fail
    refine Calls.mono (HSE.out _) ?_
    rintro e w1 ⟨rfl, hx⟩
    replace Xp := hid (Xp.out.then hx)
    clear hx 
    go_wp2
    go_returns
    exact ⟨rfl, Xp.out⟩
  · exact absurd HOK.out h.1
theorem pgWrite_any (kind : Int) (l : List Cel) (A : Option Addr) (n cap : Nat) (w : World) (hn : l.length = n) (hr : Rd w A (cls l)) (hl : ∀ x ∈ Pge.nums l, x < 18446744073709551616) (hnl : n ≤ 140737488355328) :
    Calls Tryz.prog 9 #[.int .i64 kind, .slice A n cap] w fun e w' => e = .returned (.tuple #[.string ⟨(Pge.wrt kind l).1.toArray⟩, .int .i64 ((Pge.wrt kind l).2 : Nat)]) ∧ Ext w w' := by
  have hl2 : ∀ x ∈ Pge.nums (Cel.dense l), x < 18446744073709551616 := fun x hx => by
    obtain ⟨c, hc, rfl⟩ := List.mem_map.1 hx
    exact hl _ (List.mem_map.2 ⟨c, (List.mem_filter.1 hc).1, rfl⟩)
  unfold Pge.wrt
  by_cases hok : Cel.cchk kind l = 0
  · rw [if_neg (by simp [hok])]
    by_cases hs : (Cel.dense l).length < l.length
    · by_cases ht : 0 < (Cel.dense l).length
      · exact pgWrite_11 kind l A n cap w hn hr hok hl2 hs ht
      · exact pgWrite_10 kind l A n cap w hn hr hok hl2 hs ht
    · by_cases ht : 0 < (Cel.dense l).length
      · exact pgWrite_01 kind l A n cap w hn hr hok hl2 hs ht
      · exact pgWrite_00 kind l A n cap w hn hr hok hl2 hs ht
  · rw [if_pos hok]
    have HSP := hid (split_any kind l A n cap w hn hr hnl)
    have HOK := hid hok
    unfold SplitOut at HSP
    obtain ⟨er, her⟩ : ∃ er, er = Cel.cchk kind l := ⟨_, rfl⟩
    rw [← her] at HSP HOK hok ⊢
    have h3 : ((er : Int) != 0) = true := by rw [bne_iff_ne]; omega
    have h4 : ((er : Int) == 0) = false := by rw [beq_eq_false_iff_ne]; omega
    clear hn hr hl hl2 hnl hok her
    go_enter Tryz.func9, Tryz.ntmps9
    go_wp2_with fail
    refine Calls.mono HSP.out ?_
    rintro e w1 ⟨C, n', c, D, m', d, rfl, hx, _, _, h | h⟩
    · exact absurd h.1 HOK.out
    · have Xp := hid hx
      clear hx h
      go_wp2
      go_returns
      exact ⟨rfl, Xp.out⟩
end Go.Proofs.YthgnipangcmanaaGreat
end
section
namespace Go.Proofs.YthgnipangcmanaaGreat
open Go.RowKit Hy
theorem cNum_any (n : Int) (w : World) : Calls Tryz.prog 26 #[.int .u64 n] w fun e w' => e = .returned (.agg #[.int .i64 1, .int .u64 n, .string .empty]) ∧ Ext w w' := by
  go_enter Tryz.func26, Tryz.ntmps26
  go_wp2
  go_returns
  exact ⟨rfl, Ext.new (ext_refl _) _⟩
theorem cells_any (A : Option Addr) (n c : Nat) (w : World) : Calls Tryz.prog 25 #[.slice A n c] w fun e w' => e = .returned (.slice A n c) ∧ w = w' := by
  go_enter Tryz.func25, Tryz.ntmps25
  go_wp2
  go_returns
  exact ⟨rfl, rfl⟩
end Go.Proofs.YthgnipangcmanaaGreat
end
section
namespace Hy.Pge
open Go Hy.Cel
abbrev l0 : List Cel := [(1, 5, ByteArray.empty), (0, 0, ByteArray.empty), (1, 7, ByteArray.empty)]
abbrev S0 : Tx := [7, 1, 3, 2, 5, 1, 3, 61, 0, 132, 0, 77]
theorem g1 : wrt 1 l0 = (S0, 0) := by decide +kernel
theorem g2 : pgr (S0 ++ [122]) = (1, l0, 12, 0) := by decide +kernel
theorem g3 : pgr (S0.take 11) = (0, [], 0, 5) := by decide +kernel
theorem g4 : pgr [0, 0, 0, 0, 1] = (0, [], 0, 5) := by decide +kernel
end Hy.Pge
namespace Go.Proofs.YthgnipangcmanaaGreat
open Go.RowKit Hy
theorem pgWrite_a (A : Option Addr) (cap : Nat) (w : World) (hr : Rd w A (cls Pge.l0)) (SS : ByteArray) (hS : SS = ⟨Pge.S0.toArray⟩) :
    Calls Tryz.prog 9 #[.int .i64 1, .slice A 3 cap] w fun e w' => e = .returned (.tuple #[.string SS, .int .i64 0]) ∧ Ext w w' := by
  have h := pgWrite_any 1 Pge.l0 A 3 cap w rfl hr (by decide) (by omega)
  rw [Pge.g1] at h
  rw [hS]
  exact h
theorem pgRead_a (w : World) (SS : ByteArray) (hS : SS = ⟨(Pge.S0 ++ [122]).toArray⟩) :
    Calls Tryz.prog 12 #[.string SS] w fun e w' => ∃ B c, e = .returned (.tuple #[.int .i64 1, .slice B 3 c, .int .i64 12, .int .i64 0]) ∧ Rd w' B (cls Pge.l0) ∧ Ext w w' := by
  have h := pgRead_any SS w (by rw [hS, str_size]; decide)
  rw [show SS.data.toList = Pge.S0 ++ [122] by rw [hS], Pge.g2] at h
  refine h.mono ?_
  rintro e w' ⟨B, n, c, rfl, hn, hr, hx⟩
  obtain rfl : n = 3 := hn
  exact ⟨B, c, rfl, hr, hx⟩
theorem pgRead_b (w : World) (SS : ByteArray) (s : List UInt8) (hS : SS = ⟨s.toArray⟩) (hl : s.length ≤ 1000) (hg : Pge.pgr s = (0, [], 0, 5)) :
    Calls Tryz.prog 12 #[.string SS] w fun e w' => ∃ B n c, e = .returned (.tuple #[.int .i64 0, .slice B n c, .int .i64 0, .int .i64 5]) ∧ Ext w w' := by
  have h := pgRead_any SS w (by rw [hS, str_size]; omega)
  rw [show SS.data.toList = s by rw [hS], hg] at h
  refine h.mono ?_
  rintro e w' ⟨B, n, c, rfl, hn, hr, hx⟩
  exact ⟨B, n, c, rfl, hx⟩
theorem same_a (A B : Option Addr) (ca cb : Nat) (w : World) (h1 : Rd w A (cls Pge.l0)) (h2 : Rd w B (cls Pge.l0)) :
    Calls Tryz.prog 14 #[.slice A 3 ca, .slice B 3 cb] w fun e w' => e = .returned (.bool true) ∧ Ext w w' := by
  have h := sameCells_any Pge.l0 Pge.l0 A B 3 3 ca cb w rfl rfl h1 h2 (by omega)
  rw [decide_eq_true rfl] at h
  exact h
set_option maxHeartbeats 8000000 in
set_option maxRecDepth 100000 in
theorem pageBegun_any (w : World) : Calls Tryz.prog 11 #[] w fun e w' => e = .returned (.bool true) ∧ Ext w w' := by
  have X := hid (ext_refl w)
  obtain ⟨SS, hSS⟩ : ∃ SS : ByteArray, SS = ⟨Pge.S0.toArray⟩ := ⟨_, rfl⟩
  have hz : SS.size = 12 := by rw [hSS]; rfl
  have HW := hid (fun A cap wx h => pgWrite_a A cap wx h SS hSS)
  have HR1 := hid (fun wx => pgRead_a wx (SS ++ ⟨#[122]⟩) (by rw [hSS]; rfl))
  obtain ⟨S1, hS1⟩ : ∃ S1 : ByteArray, S1 = SS ++ ⟨#[122]⟩ := ⟨_, rfl⟩
  have hT11 := fun wx : World => run_to (P := Tryz.prog) (w := wx) Tryz.underlying9 SS .i64 11 (by omega)
  have hT8 := fun wx : World => run_to (P := Tryz.prog) (w := wx) Tryz.underlying9 SS .i64 8 (by omega)
  rw [show SS.data.toList = Pge.S0 by rw [hSS]] at hT11 hT8
  rw [show ((11 : Nat) : Int) = 11 from rfl] at hT11
  rw [show ((8 : Nat) : Int) = 8 from rfl, show (⟨(Pge.S0.take 8).toArray⟩ : ByteArray) = ⟨#[7, 1, 3, 2, 5, 1, 3, 61]⟩ from rfl] at hT8
  obtain ⟨S11, hS11⟩ : ∃ S : ByteArray, S = ⟨(Pge.S0.take 11).toArray⟩ := ⟨_, rfl⟩
  rw [← hS11] at hT11
  have HR2 := hid (fun wx => pgRead_b wx S11 _ hS11 (by decide) Pge.g3)
  have HR3 := hid (fun wx => pgRead_b wx ⟨#[0, 0, 0, 0, 1]⟩ [0, 0, 0, 0, 1] rfl (by decide) Pge.g4)
  have hzI : (SS.size : Int) = 12 := by omega
  have hm : max (0 : Int) 11 = 11 := by decide
  have hm8 : min (8 : Int) 12 = 8 := by decide
  clear hSS hS1 hS11 S1 hz
  go_enter Tryz.func11, Tryz.ntmps11
  go_wp2_with fail
  refine Calls.mono (cNum_any _ _) ?_
  rintro e w1 ⟨rfl, hx⟩
  replace X := hid (X.out.then hx)
  clear hx
  go_wp2_with fail
  refine Calls.mono (cNum_any _ _) ?_
  rintro e w2 ⟨rfl, hx⟩
  replace X := hid (X.out.then hx)
  clear hx
  go_wp2_with fail
  refine Calls.mono (cells_any _ _ _ _) ?_
  rintro e _ ⟨rfl, rfl⟩
  have R0 := hid (rd_lit (w := w2) (g := w2.heap.size) (C := #[.int .i64 1, .int .u64 5, .string .empty, .int .i64 0, .int .u64 0, .string ⟨#[]⟩, .int .i64 1, .int .u64 7, .string .empty]) (e := 48) (fz := (0, 0)) (cs := cls Pge.l0) rfl rfl)
  replace X := hid (Ext.new X.out (.cells #[.int .i64 1, .int .u64 5, .string .empty, .int .i64 0, .int .u64 0, .string ⟨#[]⟩, .int .i64 1, .int .u64 7, .string .empty] 48))
  go_wp2_with fail
  refine Calls.mono (HW.out _ _ _ R0.out) ?_
  rintro e w3 ⟨rfl, hx⟩
  replace X := hid (X.out.then hx)
  replace R0 := hid (R0.out.keep hx)
  clear hx
  go_wp2_with fail
  refine Calls.mono (HR1.out _) ?_
  rintro e w4 ⟨J, j, rfl, h1, hx⟩
  replace X := hid (X.out.then hx)
  replace R0 := hid (R0.out.keep hx)
  have RJ := hid h1
  clear hx h1
  go_wp2_with fail
  refine Calls.mono (HR2.out _) ?_
  rintro e w5 ⟨J2, n2, j2, rfl, hx⟩
  replace X := hid (X.out.then hx)
  replace R0 := hid (R0.out.keep hx)
  replace RJ := hid (RJ.out.keep hx)
  clear hx
  go_wp2_with fail
  refine Calls.mono (HR3.out _) ?_
  rintro e w6 ⟨J3, n3, j3, rfl, hx⟩
  replace X := hid (X.out.then hx)
  replace R0 := hid (R0.out.keep hx)
  replace RJ := hid (RJ.out.keep hx)
  clear hx
  go_wp2_with fail
  refine Calls.mono (same_a _ _ _ _ _ RJ.out R0.out) ?_
  rintro e w7 ⟨rfl, hx⟩
  replace X := hid (X.out.then hx)
  clear hx
  go_wp2
  go_returns
  exact ⟨rfl, X.out⟩
end Go.Proofs.YthgnipangcmanaaGreat
end
section
namespace Hy.Pat
theorem cst_lt (M : List Nat) (h : M.length ≤ 64) : ∀ w, w ≤ 64 → cst M w ≤ 2000 := fun w hw => by
  have h1 := xt_le w M
  have h2 : M.length * w ≤ 64 * 64 := Nat.mul_le_mul h hw
  unfold cst Bits.size
  omega
end Hy.Pat
namespace Go.Proofs.YthgnipangcmanaaGreat
open Go.RowKit Hy
set_option maxRecDepth 100000 in
set_option maxHeartbeats 3200000 in
theorem patchBytes_any (l : List Nat) (A : Option Addr) (n cap : Nat) (w : World) (hn : l.length = n) (hr : Rd w A (u64s l)) (hl : ∀ x ∈ l, x < 18446744073709551616) (hnl : n ≤ 64) :
    Calls Tryz.prog 94 #[.slice A n cap] w fun e w' => e = .returned (.string ⟨(Pat.bys l).toArray⟩) ∧ Ext w w' := by
  have HCO := hid (fun wd (h : wd ≤ 64) wx (hx : Ext w wx) => costOf_any l A n cap wd wx hn (hr.keep hx) hl hnl h)
  have CB := hid (fun wx (hx : Ext w wx) => baseOf_any l A n cap wx hn (hr.keep hx) hl hnl)
  have hbl := Pat.bas_lt l hl
  have hml := Pat.mor_lt l hl
  have hmn := Pat.mor_len l
  have hBY := Pat.bys_eq l
  have HLE := hid (Pat.bas_le l)
  have HMOR := hid (show Pat.mor l = l.map (· - Pat.bas l) from rfl)
  have HCL := hid (Pat.cst_lt (Pat.mor l) (by rw [hmn, hn]; exact hnl))
  have HOF := hid (fun v (hk : v ≤ 64) h1 h2 => Pat.bst_of (M := Pat.mor l) (k := 64) (w := v) hk h1 h2)
  obtain ⟨b, hb⟩ : ∃ b, b = Pat.bas l := ⟨_, rfl⟩
  obtain ⟨M, hM⟩ : ∃ M, M = Pat.mor l := ⟨_, rfl⟩
  obtain ⟨wd, hwd⟩ : ∃ wd, wd = Pat.bst M 64 := ⟨_, rfl⟩
  have hwb := Pat.bst_le M 64
  rw [← hb] at hbl CB HLE HMOR
  rw [← hb, ← hM, ← hwd] at hBY
  rw [← hM] at hml hmn HMOR HCL HOF HCO
  rw [← hwd] at hwb
  simp only [← hwd] at HOF
  rw [hn] at hmn
  have HFI := hid (fun x (hx : x ∈ M) wx => fits_any x wd wx (hml x hx) (by omega))
  have HWR := hid (fun x (hx : x ∈ M) wx => varyBytes_any x wx (hml x hx))
  have HVB := hid (fun wx => varyBytes_any b wx hbl)
  have HPK := hid (fun (B : Option Addr) (c : Nat) (wx : World) (h : Rd wx B (u64s (Pat.inn wd M))) => packedOf_any (Pat.inn wd M) B n c wd wx (by rw [Pat.inn_len, hmn]) h (Pat.inn_lt wd M hwb hml) (by omega) hwb)
  have HMN := hid hmn
  have hwI : (wd : Int) ≤ 64 := by omega
  have hbI : (b : Int) ≤ 18446744073709551615 := by omega
  have hnI : (n : Int) ≤ 64 := by omega
  have HBY := hid hBY
  have HML := hid hml
  have HR := hid hr
  have HN := hid hn
  have HN64 := hid hnl
  have HPL := hid (Bits.packed_len (Pat.inn wd M) wd)
  have HXL := hid (fun i => Pat.xt_le wd (M.take i))
  have HTLL := hid (fun i => Pat.tl_len wd (M.take i) 0)
  have HCNL := hid (fun i => Pat.cnt_le wd (M.take i))
  have HGM := hid (show ∀ i x, l[i]? = some x → M[i]? = some (x - b) from fun i x h => by rw [HMOR.out, List.getElem?_map, h]; rfl)
  clear hn hr hl hnl hbl hml hmn hb hM hwd hBY
  go_enter Tryz.func94, Tryz.ntmps94
  go_wp2
  go_loopw [3, 4] (fun a c wr => ∃ (v k : Nat), k ≤ 64 ∧ c = .int .i64 ((k : Int) - 1) ∧ a = .int .i64 v ∧ k ≤ v ∧ v ≤ 64 ∧ Hid (∀ u, k ≤ u → u ≤ 64 → Pat.cst M v ≤ Pat.cst M u) ∧ Hid (∀ u, k ≤ u → u < v → Pat.cst M v < Pat.cst M u) ∧ Hid (Ext w wr)) (fun _ c _ => ((intOf c) + 1).toNat)
  case atStart => exact ⟨64, 64, Nat.le_refl _, rfl, rfl, Nat.le_refl _, Nat.le_refl _, hid (fun u h1 h2 => by rw [show u = 64 by omega]; exact Nat.le_refl _), hid (fun u h1 h2 => by omega), ext_refl _⟩
  case round =>
    obtain ⟨v, k, hk, rfl, rfl, hkv, hv, H1, H2, HX⟩ := hrel
    by_cases hk0 : 1 ≤ k
    · obtain ⟨j, rfl⟩ : ∃ j, k = j + 1 := ⟨k - 1, by omega⟩
      have hj : ((j + 1 : Nat) : Int) - 1 = (j : Int) := by omega
      rw [hj]
      have hjI : (j : Int) ≤ 63 := by omega
      have hvI : (v : Int) ≤ 64 := by omega
      have C1 := hid (HCO.out j (by omega))
      have C2 := hid (HCO.out v hv)
      have l1 := HCL.out j (by omega)
      have l2 := HCL.out v hv
      have HKV := hid hkv
      have HV := hid hv
      obtain ⟨c1, hc1⟩ : ∃ c, c = Pat.cst M j := ⟨_, rfl⟩
      obtain ⟨c2, hc2⟩ : ∃ c, c = Pat.cst M v := ⟨_, rfl⟩
      rw [← hc1] at C1 l1
      rw [← hc2] at C2 l2
      have l1I : (c1 : Int) ≤ 100000 := by omega
      have l2I : (c2 : Int) ≤ 100000 := by omega
      by_cases hle : c1 ≤ c2
      · have H1n := hid (show ∀ u, j ≤ u → u ≤ 64 → Pat.cst M j ≤ Pat.cst M u from fun u h1 h2 => by
          rcases Nat.eq_or_lt_of_le h1 with e | h
          · rw [← e]; exact Nat.le_refl _
          · have := H1.out u h h2; omega)
        have H2n := hid (show ∀ u, j ≤ u → u < j → Pat.cst M j < Pat.cst M u from fun u h1 h2 => by omega)
        have hleI : (c1 : Int) ≤ (c2 : Int) := by omega
        clear hk0 hc1 hc2 l1 l2 hkv hv hk hj hle
        go_wp2_with fail
        refine Calls.mono (C1.out _ HX.out) ?_
        rintro e w2 ⟨rfl, hx⟩
        have HX2 := hid (HX.out.then hx)
        clear hx C1
        go_wp2_with fail
        refine Calls.mono (C2.out _ HX2.out) ?_
        rintro e w3 ⟨rfl, hx⟩
        have HX3 := hid (HX2.out.then hx)
        clear hx C2
        go_wp2
        go_roundw
        case rel => exact ⟨j, j, by omega, rfl, rfl, Nat.le_refl _, by omega, H1n, H2n, HX3⟩
        case measure => simp [intOf] <;> omega
      · have H1n := hid (show ∀ u, j ≤ u → u ≤ 64 → Pat.cst M v ≤ Pat.cst M u from fun u h1 h2 => by
          rcases Nat.eq_or_lt_of_le h1 with e | h
          · rw [← e]; omega
          · exact H1.out u h h2)
        have H2n := hid (show ∀ u, j ≤ u → u < v → Pat.cst M v < Pat.cst M u from fun u h1 h2 => by
          rcases Nat.eq_or_lt_of_le h1 with e | h
          · rw [← e]; omega
          · exact H2.out u h h2)
        have hleI : ¬ (c1 : Int) ≤ (c2 : Int) := by omega
        clear hk0 hc1 hc2 l1 l2 hkv hv hk hj hle
        go_wp2_with fail
        refine Calls.mono (C1.out _ HX.out) ?_
        rintro e w2 ⟨rfl, hx⟩
        have HX2 := hid (HX.out.then hx)
        clear hx C1
        go_wp2_with fail
        refine Calls.mono (C2.out _ HX2.out) ?_
        rintro e w3 ⟨rfl, hx⟩
        have HX3 := hid (HX2.out.then hx)
        clear hx C2
        go_wp2
        go_roundw
        case rel => exact ⟨v, j, by omega, rfl, rfl, by have := HKV.out; omega, HV.out, H1n, H2n, HX3⟩
        case measure => simp [intOf] <;> omega
    · obtain rfl : k = 0 := by omega
      have hvw := HOF.out v hv (fun u hu => H1.out u (Nat.zero_le _) hu) (fun u hu => H2.out u (Nat.zero_le _) hu)
      rw [← hvw]
      clear hvw H1 H2 hkv hk0 HOF HCO HCL hv hk
      have HX0 := HX
      clear HX
      rw [show ((0 : Nat) : Int) - 1 = -1 from rfl]
      have hz0 : decide ((0 : Int) ≤ -1) = false := by decide
      go_wp2
      go_loopw [5, 6, 7, 8, 9] (fun a t8 cq ix _ wr => ∃ i, i ≤ n ∧ ix = .int .i64 i ∧ t8 = .string ⟨(Pat.tl wd 0 (M.take i)).toArray⟩ ∧ cq = .int .i64 (Pat.cnt wd (M.take i) : Nat) ∧ Hid (wr.ownsRow w.heap.size 34 1 a i (u64s (Pat.inn wd (M.take i)))) ∧ Hid (Ext w wr)) (fun _ _ _ ix _ _ => n - (intOf ix).toNat)
      case atStart => exact ⟨0, Nat.zero_le _, rfl, rfl, rfl, hid (World.ownsRow_nil _ _ _ _), HX0⟩
      case round =>
        obtain ⟨i, hi, rfl, rfl, rfl, HO, HX⟩ := hrel
        by_cases hlt : i < n
        · have hltI : (i : Int) < (n : Int) := by omega
          obtain ⟨z, hz⟩ : ∃ z, l[i]? = some z := ⟨_, List.getElem?_eq_getElem (by rw [HN.out]; exact hlt)⟩
          have hx := HGM.out i z hz
          have hbz := HLE.out z (List.mem_of_getElem? hz)
          obtain ⟨b1, o1, e1, l1, c1⟩ := (HR.out.keep HX.out).num00 (by rw [HN.out]; omega)
          subst e1
          have d0 := c1 i z hz
          have d0r := cell_regrown d0
          obtain ⟨x, hxe⟩ : ∃ x, x = z - b := ⟨_, rfl⟩
          rw [← hxe] at hx
          have hmem := List.mem_of_getElem? hx
          have hxl := HML.out x hmem
          have hsub : (z : Int) - (b : Int) = (x : Int) := by omega
          have hxI : (x : Int) ≤ 18446744073709551615 := by omega
          have hwx : IntKind.u64.wrap (x : Int) = (x : Int) := by rw [IntKind.wrap_u64]; omega
          have CF := hid (HFI.out x hmem)
          have CW := hid (HWR.out x hmem)
          have COB := hid (fun wx => oneByte_any (i : Int) wx (by omega) (by have := HN64.out; omega))
          rw [Int.toNat_natCast] at COB
          obtain ⟨XT, hXT⟩ : ∃ S : ByteArray, S = ⟨(Pat.tl wd 0 (M.take i)).toArray⟩ := ⟨_, rfl⟩
          have htll := HTLL.out i
          have hxtl := HXL.out i
          have hcl := HCNL.out i
          have htk : (M.take i).length ≤ n := by rw [List.length_take]; omega
          have hXs : XT.size ≤ 640 := by rw [hXT, str_size]; have := HN64.out; omega
          have hcI : ((Pat.cnt wd (M.take i) : Nat) : Int) ≤ 64 := by have := HN64.out; omega
          rw [← hXT]
          have HXT := hid hXT
          obtain ⟨A3, c3, rfl, hrd3, _⟩ := Rd.owned HO.out
          have HI := hid (show i ≤ 64 by have := HN64.out; omega)
          have HTAK := hid (take_succ_snoc' hx)
          by_cases ho : wd < Lib.bitLen x
          · rw [Bits.fitsB_false ho] at CF
            have HTL := hid (Pat.tl_at hx ho)
            have HCN := hid (Pat.cnt_at hx ho)
            have HIN := hid (show Pat.inn wd (M.take (i + 1)) = Pat.inn wd (M.take i) ++ [0] by rw [HTAK.out]; unfold Pat.inn; rw [List.map_append]; simp [ho])
            have hvl := Vary.wr_len x
            have hv8 := Vary.beh_le8 x
            obtain ⟨X2b, hX2b⟩ : ∃ S : ByteArray, S = ⟨#[UInt8.ofNat i]⟩ := ⟨_, rfl⟩
            obtain ⟨X3b, hX3b⟩ : ∃ S : ByteArray, S = ⟨(Vary.wr x).toArray⟩ := ⟨_, rfl⟩
            rw [← hX3b] at CW
            rw [← hX2b] at COB
            have hz2 : X2b.size = 1 := by rw [hX2b]; rfl
            have hz3 : X3b.size ≤ 9 := by rw [hX3b, str_size]; omega
            have HX2b := hid hX2b
            have HX3b := hid hX3b
            clear hx hmem hxl c1 hXT htll hxtl hcl htk hX2b hX3b hvl hv8 ho hz hxe hbz hrd3
            generalize Pat.cnt wd (M.take i) = q at *
            generalize Pat.inn wd (M.take i) = L at *
            go_wp2
            refine wp_region_walk [(0, true), (1, true), (2, true), (3, true), (4, true), (5, false), (6, true), (7, true)] (by kernel_rfl) (by kernel_rfl) (fun _ _ _ _ _ h => h) (by kernel_rfl) (by rfl) ?_
            simp only [List.filterMap_cons, List.filterMap_nil, List.getElem?_toArray, List.getElem?_cons_zero, List.getElem?_cons_succ, Option.map_some]
            repeat (refine wpM_val (by rfl) ?_; intro K hK; go_big_quiet_op; go_big_quiet_on)
            have HY1 : Hid (Ext wr wr.drew) := hid (Ext.draw (ext_refl wr))
            refine wpM_do (by rfl) ?_
            intro K hK
            go_simp
            refine Calls.mono (CB.out _ (HX.out.then HY1.out)) ?_
            rintro e _ ⟨rfl, rfl⟩
            refine hK _ _ HY1.out ?_
            clear K hK
            repeat (refine wpM_val (by rfl) ?_; intro K hK; go_big_quiet_op; go_big_quiet_on)
            refine wpM_nil ?_
            have HO2 := hid (own_ext HO.out HY1.out)
            have HX2 := hid (HX.out.then HY1.out)
            clear HY1
            generalize wr.drew = wq at HO2 HX2 ⊢
            go_wp2_with fail
            refine Calls.mono (CF.out _) ?_
            rintro e _ ⟨rfl, rfl⟩
            go_wp2_with (first
              | (go_at_call 32; refine Calls.mono (COB.out _) ?_; rintro e w6 ⟨rfl, hx⟩; replace HO5 := hid (own_ext HO5.out hx); replace HX5 := hid (Ext.then HX5.out hx); clear hx)
              | (go_at_call 15; refine Calls.mono (CW.out _) ?_; rintro e w7 ⟨rfl, hx⟩; replace HO5 := hid (own_ext HO5.out hx); replace HX5 := hid (Ext.then HX5.out hx); clear hx)
              | (at_builtin; refine wpList_app rfl (.tmp 42) (.tmp 43) rowU64 rfl _ i _ rfl (own_ext HO2.out ((ext_refl _).new _)) _ 1 (u64s [0]) rfl (Src.rd Tryz.underlying58 _ 1 1 _ rfl (rd_lit rfl rfl) (u64s_one _) (fun h => by cases h)) (by have := HI.out; unfold maxLen; omega) (by have := HI.out; omega) (by have := HX2.out.size; simp; omega) ?_; intro v' w5 hown5 hgrow hat hbel; have HO5 := hid hown5; have HX5 := hid (Below.trans (Ext.new HX2.out _) hbel); obtain ⟨A5, c5, rfl, _⟩ := Rd.owned HO5.out; clear hown5 hgrow hat hbel))
            go_roundw
            case rel => exact ⟨i + 1, by omega, by go_num, by rw [HTL.out, HXT.out, HX2b.out, HX3b.out, show (⟨#[UInt8.ofNat i]⟩ : ByteArray) = ⟨[UInt8.ofNat i].toArray⟩ from rfl, str_app, str_app], by rw [HCN.out]; rfl, hid (by rw [HIN.out, u64s_app]; exact HO5.out), HX5⟩
            case measure => simp [intOf]; omega
          · rw [Bits.fitsB_true (by omega)] at CF
            have HTL := hid (Pat.tl_no hx ho)
            have HCN := hid (Pat.cnt_no hx ho)
            have HIN := hid (show Pat.inn wd (M.take (i + 1)) = Pat.inn wd (M.take i) ++ [x] by rw [HTAK.out]; unfold Pat.inn; rw [List.map_append]; simp [ho])
            clear hx hmem hxl c1 hXT htll hxtl hcl htk ho hz hxe hbz hrd3
            generalize Pat.inn wd (M.take i) = L at *
            go_wp2
            refine wp_region_walk [(0, true), (1, true), (2, true), (3, true), (4, true), (5, false), (6, true), (7, true)] (by kernel_rfl) (by kernel_rfl) (fun _ _ _ _ _ h => h) (by kernel_rfl) (by rfl) ?_
            simp only [List.filterMap_cons, List.filterMap_nil, List.getElem?_toArray, List.getElem?_cons_zero, List.getElem?_cons_succ, Option.map_some]
            repeat (refine wpM_val (by rfl) ?_; intro K hK; go_big_quiet_op; go_big_quiet_on)
            have HY1 : Hid (Ext wr wr.drew) := hid (Ext.draw (ext_refl wr))
            refine wpM_do (by rfl) ?_
            intro K hK
            go_simp
            refine Calls.mono (CB.out _ (HX.out.then HY1.out)) ?_
            rintro e _ ⟨rfl, rfl⟩
            refine hK _ _ HY1.out ?_
            clear K hK
            repeat (refine wpM_val (by rfl) ?_; intro K hK; go_big_quiet_op; go_big_quiet_on)
            refine wpM_nil ?_
            have HO2 := hid (own_ext HO.out HY1.out)
            have HX2 := hid (HX.out.then HY1.out)
            clear HY1
            generalize wr.drew = wq at HO2 HX2 ⊢
            go_wp2_with fail
            refine Calls.mono (CF.out _) ?_
            rintro e _ ⟨rfl, rfl⟩
            go_wp2_with (at_builtin; refine wpList_app rfl (.tmp 38) (.tmp 40) rowU64 rfl _ i _ rfl (own_ext HO2.out ((ext_refl _).new _)) _ 1 (u64s [x]) rfl (Src.rd Tryz.underlying58 _ 1 1 _ rfl (rd_lit rfl rfl) (u64s_one _) (fun h => by cases h)) (by have := HI.out; unfold maxLen; omega) (by have := HI.out; omega) (by have := HX2.out.size; simp; omega) ?_; intro v' w5 hown5 hgrow hat hbel; have HO5 := hid hown5; have HX5 := hid (Below.trans (Ext.new HX2.out _) hbel); obtain ⟨A5, c5, rfl, _⟩ := Rd.owned HO5.out; clear hown5 hgrow hat hbel)
            go_roundw
            case rel => exact ⟨i + 1, by omega, by go_num, by rw [HTL.out, HXT.out], by rw [HCN.out], hid (by rw [HIN.out, u64s_app]; exact HO5.out), HX5⟩
            case measure => simp [intOf]; omega
        · obtain rfl : i = n := by omega
          have htk : M.take i = M := List.take_of_length_le (by rw [HMN.out]; exact Nat.le_refl _)
          rw [htk] at HO
          have htll := HTLL.out i
          have hxtl := HXL.out i
          have hcl := HCNL.out i
          rw [htk] at htll hxtl hcl ⊢
          rw [HMN.out] at hxtl hcl
          obtain ⟨A3, c3, rfl, hrd3, _⟩ := Rd.owned HO.out
          have HPC := hid (fun wx (hx : Ext wr wx) => HPK.out A3 c3 wx (hrd3.keep hx))
          obtain ⟨q, hq⟩ : ∃ q, q = Pat.cnt wd M := ⟨_, rfl⟩
          rw [← hq] at hcl ⊢
          have hqI : (q : Int) ≤ 64 := by have := HN64.out; omega
          have CO1 := hid (fun wx => oneByte_any (wd : Int) wx (by omega) (by omega))
          have CO2 := hid (fun wx => oneByte_any (q : Int) wx (by omega) (by omega))
          rw [Int.toNat_natCast] at CO1 CO2
          obtain ⟨X1b, hX1b⟩ : ∃ S : ByteArray, S = ⟨(Vary.wr b).toArray⟩ := ⟨_, rfl⟩
          obtain ⟨X2b, hX2b⟩ : ∃ S : ByteArray, S = ⟨#[UInt8.ofNat wd]⟩ := ⟨_, rfl⟩
          obtain ⟨X5b, hX5b⟩ : ∃ S : ByteArray, S = ⟨#[UInt8.ofNat q]⟩ := ⟨_, rfl⟩
          obtain ⟨X3b, hX3b⟩ : ∃ S : ByteArray, S = ⟨(Bits.packed (Pat.inn wd M) wd).toArray⟩ := ⟨_, rfl⟩
          obtain ⟨X4b, hX4b⟩ : ∃ S : ByteArray, S = ⟨(Pat.tl wd 0 M).toArray⟩ := ⟨_, rfl⟩
          have hz1 : X1b.size ≤ 9 := by rw [hX1b, str_size, Vary.wr_len]; have := Vary.beh_le8 b; omega
          have hz2 : X2b.size = 1 := by rw [hX2b]; rfl
          have hz5 : X5b.size = 1 := by rw [hX5b]; rfl
          have hz3 : X3b.size ≤ 1000 := by
            rw [hX3b, str_size, HPL.out, Pat.inn_len, HMN.out]
            have h1 := HN64.out
            have h2 : i * wd ≤ 64 * 64 := Nat.mul_le_mul h1 (by omega)
            unfold Bits.size; omega
          have hz4 : X4b.size ≤ 640 := by rw [hX4b, str_size]; have := HN64.out; omega
          have HRES := hid (show (⟨(Pat.bys l).toArray⟩ : ByteArray) = X1b ++ X2b ++ X5b ++ X3b ++ X4b by
            rw [HBY.out, hX1b, hX2b, hX5b, hX3b, hX4b, show (⟨#[UInt8.ofNat wd]⟩ : ByteArray) = ⟨[UInt8.ofNat wd].toArray⟩ from rfl, show (⟨#[UInt8.ofNat q]⟩ : ByteArray) = ⟨[UInt8.ofNat q].toArray⟩ from rfl, str_app, str_app, str_app, str_app, hq, List.append_assoc (Vary.wr b) [UInt8.ofNat wd]]; rfl)
          rw [← hX1b] at HVB
          rw [← hX3b] at HPC
          rw [← hX2b] at CO1
          rw [← hX5b] at CO2
          rw [← hX4b]
          clear htk htll hxtl hcl hq hX1b hX2b hX3b hX4b hX5b hrd3
          go_wp2_with fail
          refine Calls.mono (CB.out _ HX.out) ?_
          rintro e _ ⟨rfl, rfl⟩
          go_wp2_with fail
          refine Calls.mono (HVB.out _) ?_
          rintro e y1 ⟨rfl, hx⟩
          have Y1 := hid hx
          clear hx
          go_wp2_with fail
          refine Calls.mono (CO1.out _) ?_
          rintro e y2 ⟨rfl, hx⟩
          have Y2 := hid (Y1.out.then hx)
          clear hx
          go_wp2_with fail
          refine Calls.mono (CO2.out _) ?_
          rintro e y3 ⟨rfl, hx⟩
          have Y3 := hid (Y2.out.then hx)
          clear hx
          go_wp2_with fail
          refine Calls.mono (HPC.out _ Y3.out) ?_
          rintro e y4 ⟨rfl, hx⟩
          have Y4 := hid (HX.out.then (Y3.out.then hx))
          clear hx
          go_wp2
          go_returns
          exact ⟨by rw [HRES.out]; rfl, Y4.out⟩
end Go.Proofs.YthgnipangcmanaaGreat
end
section
namespace Go.Proofs.YthgnipangcmanaaGreat
open Go.RowKit Hy
theorem _root_.Hy.Cod.tgn (f : Nat → Cod.Tx) (k : Nat) : Cod.tg f k = UInt8.ofNat k :: f k := rfl
set_option maxHeartbeats 800000 in
theorem numberBytes_any (l : List Nat) (A : Option Addr) (n cap k : Nat) (w : World) (hn : l.length = n) (hr : Rd w A (u64s l)) (hcap : n ≤ cap) (hl : ∀ x ∈ l, x < 18446744073709551616) (hnl : n ≤ 64) (h1 : 1 ≤ k) (h4 : k ≤ 4) :
    Calls Tryz.prog 62 #[.slice A n cap, .int .i64 k] w fun e w' => e = .returned (.string ⟨(Cod.tg (Cod.nm l) k).toArray⟩) ∧ Ext w w' := by
  have HW := hid (widthOf_any l A n cap w hn hr hl (by omega))
  obtain ⟨h64, hfit⟩ := Cod.width_fit l hl
  obtain ⟨wb, hwb⟩ : ∃ wb, wb = Bits.width l := ⟨_, rfl⟩
  rw [← hwb] at HW h64 hfit
  have hwI : (wb : Int) ≤ 64 := by omega
  obtain rfl | rfl | rfl | rfl : k = 1 ∨ k = 2 ∨ k = 3 ∨ k = 4 := by omega
  all_goals clear h1 h4
  · rw [Cod.tgn]
    have HC := hid (fun wx (hx : Ext w wx) => packedOf_any l A n cap wb wx hn (hr.keep hx) hfit (by omega) h64)
    have hlen := Cod.nm_len l 1 (by omega) hl
    rw [Cod.nm1] at hlen ⊢
    obtain ⟨X2, hX2⟩ : ∃ S : ByteArray, S = ⟨#[UInt8.ofNat wb]⟩ := ⟨_, rfl⟩
    obtain ⟨X3, hX3⟩ : ∃ S : ByteArray, S = ⟨(Bits.packed l wb).toArray⟩ := ⟨_, rfl⟩
    rw [← hwb] at hlen ⊢
    have HVV := hid (show (⟨#[UInt8.ofNat 1]⟩ : ByteArray) ++ X2 ++ X3 = ⟨(UInt8.ofNat 1 :: UInt8.ofNat wb :: Bits.packed l wb).toArray⟩ by rw [hX2, hX3, str_cons]; exact str_app _ _)
    have hz2 : X2.size = 1 := by rw [hX2]; rfl
    have hz3 : X3.size ≤ 2000 := by rw [hX3, str_size]; simp only [List.length_cons] at hlen; omega
    have HOB := hid (fun wx => oneByte_any (wb : Int) wx (by omega) (by omega))
    rw [Int.toNat_natCast, ← hX2] at HOB
    rw [← hX3] at HC
    have HO1 := hid (fun wx => oneByte_any 1 wx (by decide) (by decide))
    have hz1 : (⟨#[UInt8.ofNat 1]⟩ : ByteArray).size = 1 := rfl
    rw [show ((1 : Int).toNat) = 1 from rfl] at HO1
    generalize (⟨#[UInt8.ofNat 1]⟩ : ByteArray) = X1 at *
    clear hX2 hX3 hlen hn hr hcap hl hnl hwb
    go_enter Tryz.func62, Tryz.ntmps62
    go_wp2_with fail
    refine Calls.mono HW.out ?_
    rintro e _ ⟨rfl, rfl⟩
    go_wp2_with fail
    refine Calls.mono (HO1.out _) ?_
    rintro e w1 ⟨rfl, hx⟩
    have Xp := hid hx
    clear hx
    go_wp2_with fail
    refine Calls.mono (HOB.out _) ?_
    rintro e w2 ⟨rfl, hx⟩
    replace Xp := hid (Xp.out.then hx)
    clear hx
    go_wp2_with fail
    refine Calls.mono (HC.out _ Xp.out) ?_
    rintro e w3 ⟨rfl, hx⟩
    replace Xp := hid (Xp.out.then hx)
    clear hx
    go_wp2
    go_returns
    exact ⟨by rw [← HVV.out]; rfl, Xp.out⟩
  · rw [Cod.tgn]
    have HC := hid (fun wx (hx : Ext w wx) => hybridBytes_any l A n cap wb wx hn (hr.keep hx) hcap (by omega) hfit h64)
    have hlen := Cod.nm_len l 2 (by omega) hl
    rw [Cod.nm2] at hlen ⊢
    obtain ⟨X2, hX2⟩ : ∃ S : ByteArray, S = ⟨#[UInt8.ofNat wb]⟩ := ⟨_, rfl⟩
    obtain ⟨X3, hX3⟩ : ∃ S : ByteArray, S = ⟨(Hyb.raw l wb).toArray⟩ := ⟨_, rfl⟩
    rw [← hwb] at hlen ⊢
    have HVV := hid (show (⟨#[UInt8.ofNat 2]⟩ : ByteArray) ++ X2 ++ X3 = ⟨(UInt8.ofNat 2 :: UInt8.ofNat wb :: Hyb.raw l wb).toArray⟩ by rw [hX2, hX3, str_cons]; exact str_app _ _)
    have hz2 : X2.size = 1 := by rw [hX2]; rfl
    have hz3 : X3.size ≤ 2000 := by rw [hX3, str_size]; simp only [List.length_cons] at hlen; omega
    have HOB := hid (fun wx => oneByte_any (wb : Int) wx (by omega) (by omega))
    rw [Int.toNat_natCast, ← hX2] at HOB
    rw [← hX3] at HC
    have HO1 := hid (fun wx => oneByte_any 2 wx (by decide) (by decide))
    have hz1 : (⟨#[UInt8.ofNat 2]⟩ : ByteArray).size = 1 := rfl
    rw [show ((2 : Int).toNat) = 2 from rfl] at HO1
    generalize (⟨#[UInt8.ofNat 2]⟩ : ByteArray) = X1 at *
    clear hX2 hX3 hlen hn hr hcap hl hnl hwb
    go_enter Tryz.func62, Tryz.ntmps62
    go_wp2_with fail
    refine Calls.mono HW.out ?_
    rintro e _ ⟨rfl, rfl⟩
    go_wp2_with fail
    refine Calls.mono (HO1.out _) ?_
    rintro e w1 ⟨rfl, hx⟩
    have Xp := hid hx
    clear hx
    go_wp2_with fail
    refine Calls.mono (HOB.out _) ?_
    rintro e w2 ⟨rfl, hx⟩
    replace Xp := hid (Xp.out.then hx)
    clear hx
    go_wp2_with fail
    refine Calls.mono (HC.out _ Xp.out) ?_
    rintro e w3 ⟨rfl, hx⟩
    replace Xp := hid (Xp.out.then hx)
    clear hx
    go_wp2
    go_returns
    exact ⟨by rw [← HVV.out]; rfl, Xp.out⟩
  · rw [Cod.tgn]
    have HC := hid (fun wx (hx : Ext w wx) => deltaBytes_any l A n cap wx hn (hr.keep hx) hl (by omega))
    have hlen := Cod.nm_len l 3 (by omega) hl
    rw [Cod.nm3] at hlen ⊢
    obtain ⟨X3, hX3⟩ : ∃ S : ByteArray, S = ⟨(Dlt.bys l).toArray⟩ := ⟨_, rfl⟩
    have HVV := hid (show (⟨#[UInt8.ofNat 3]⟩ : ByteArray) ++ X3 = ⟨(UInt8.ofNat 3 :: Dlt.bys l).toArray⟩ by rw [hX3, str_cons])
    have hz3 : X3.size ≤ 2000 := by rw [hX3, str_size]; exact hlen
    rw [← hX3] at HC
    have HO1 := hid (fun wx => oneByte_any 3 wx (by decide) (by decide))
    have hz1 : (⟨#[UInt8.ofNat 3]⟩ : ByteArray).size = 1 := rfl
    rw [show ((3 : Int).toNat) = 3 from rfl] at HO1
    generalize (⟨#[UInt8.ofNat 3]⟩ : ByteArray) = X1 at *
    clear hX3 hlen hn hr hcap hl hnl hwb
    go_enter Tryz.func62, Tryz.ntmps62
    go_wp2_with fail
    refine Calls.mono HW.out ?_
    rintro e _ ⟨rfl, rfl⟩
    go_wp2_with fail
    refine Calls.mono (HO1.out _) ?_
    rintro e w1 ⟨rfl, hx⟩
    have Xp := hid hx
    clear hx
    go_wp2_with fail
    refine Calls.mono (HC.out _ Xp.out) ?_
    rintro e w3 ⟨rfl, hx⟩
    replace Xp := hid (Xp.out.then hx)
    clear hx
    go_wp2
    go_returns
    exact ⟨by rw [← HVV.out]; rfl, Xp.out⟩
  · rw [Cod.tgn]
    have HC := hid (fun wx (hx : Ext w wx) => patchBytes_any l A n cap wx hn (hr.keep hx) hl hnl)
    have hlen := Cod.nm_len l 4 (by omega) hl
    rw [Cod.nm4] at hlen ⊢
    obtain ⟨X3, hX3⟩ : ∃ S : ByteArray, S = ⟨(Pat.bys l).toArray⟩ := ⟨_, rfl⟩
    have HVV := hid (show (⟨#[UInt8.ofNat 4]⟩ : ByteArray) ++ X3 = ⟨(UInt8.ofNat 4 :: Pat.bys l).toArray⟩ by rw [hX3, str_cons])
    have hz3 : X3.size ≤ 2000 := by rw [hX3, str_size]; exact hlen
    rw [← hX3] at HC
    have HO1 := hid (fun wx => oneByte_any 4 wx (by decide) (by decide))
    have hz1 : (⟨#[UInt8.ofNat 4]⟩ : ByteArray).size = 1 := rfl
    rw [show ((4 : Int).toNat) = 4 from rfl] at HO1
    generalize (⟨#[UInt8.ofNat 4]⟩ : ByteArray) = X1 at *
    clear hX3 hlen hn hr hcap hl hnl hwb
    go_enter Tryz.func62, Tryz.ntmps62
    go_wp2_with fail
    refine Calls.mono HW.out ?_
    rintro e _ ⟨rfl, rfl⟩
    go_wp2_with fail
    refine Calls.mono (HO1.out _) ?_
    rintro e w1 ⟨rfl, hx⟩
    have Xp := hid hx
    clear hx
    go_wp2_with fail
    refine Calls.mono (HC.out _ Xp.out) ?_
    rintro e w3 ⟨rfl, hx⟩
    replace Xp := hid (Xp.out.then hx)
    clear hx
    go_wp2
    go_returns
    exact ⟨by rw [← HVV.out]; rfl, Xp.out⟩
set_option maxHeartbeats 800000 in
theorem bestNumberBytes_any (l : List Nat) (A : Option Addr) (n cap : Nat) (w : World) (hn : l.length = n) (hr : Rd w A (u64s l)) (hcap : n ≤ cap) (hl : ∀ x ∈ l, x < 18446744073709551616) (hnl : n ≤ 64) :
    Calls Tryz.prog 37 #[.slice A n cap] w fun e w' => e = .returned (.string ⟨(Cod.up (Cod.nm l) 1 3).toArray⟩) ∧ Ext w w' := by
  have HC := hid (fun (k : Nat) (h1 : 1 ≤ k) (h4 : k ≤ 4) wx (hx : Ext w wx) => numberBytes_any l A n cap k wx hn (hr.keep hx) hcap hl hnl h1 h4)
  have HLN := hid (fun k => Cod.nm_len l k (by omega) hl)
  rw [← Cod.down4]
  have HTL := hid (fun k => Cod.tg_len (Cod.nm l) k)
  have HS0 := hid (Cod.down_zero (Cod.nm l) 4)
  have HSS := hid (fun j => Cod.down_succ (Cod.nm l) 4 j)
  have HDL := hid (fun j => Cod.down_len (Cod.nm l) 4 j 2000 HLN.out)
  generalize Cod.nm l = f at *
  clear hn hr hcap hl hnl
  go_enter Tryz.func37, Tryz.ntmps37
  go_wp2_with fail
  refine Calls.mono (HC.out 4 (by decide) (by decide) _ (ext_refl _)) ?_
  rintro e w1 ⟨rfl, hx⟩
  have X1 := hid hx
  clear hx
  rw [← HS0.out]
  go_wp2
  go_loopw [3, 4, 5] (fun v c _ wr => ∃ j : Nat, j ≤ 3 ∧ c = .int .i64 (3 - (j : Int)) ∧ v = .string ⟨(Cod.down f 4 j).toArray⟩ ∧ Hid (Ext w wr)) (fun _ c _ _ => (intOf c - 1 + 1).toNat)
  case atStart => exact ⟨0, Nat.zero_le _, rfl, rfl, X1⟩
  case round =>
    obtain ⟨j, hj, rfl, rfl, HX⟩ := hrel
    by_cases hlt : j < 3
    · have hc1 : (3 : Int) - (j : Int) = ((4 - j - 1 : Nat) : Int) := by omega
      have hjI : 1 ≤ ((4 - j - 1 : Nat) : Int) := by omega
      have hjU : ((4 - j - 1 : Nat) : Int) ≤ 4 := by omega
      have C1 := hid (HC.out (4 - j - 1) (by omega) (by omega))
      have U1 := hid (HSS.out j)
      have l1 := HDL.out j
      have l2 := HLN.out (4 - j - 1)
      have l3 := HTL.out (4 - j - 1)
      have hn1 : ((4 - j - 1 : Nat) : Int) - 1 = 3 - ((j + 1 : Nat) : Int) := by omega
      rw [hc1]
      obtain ⟨G, hG⟩ : ∃ S : ByteArray, S = ⟨(Cod.tg f (4 - j - 1)).toArray⟩ := ⟨_, rfl⟩
      obtain ⟨U, hU⟩ : ∃ S : ByteArray, S = ⟨(Cod.down f 4 j).toArray⟩ := ⟨_, rfl⟩
      have HGU := hid hG
      have HUU := hid hU
      have g1 : G.size = (Cod.tg f (4 - j - 1)).length := by rw [hG, str_size]
      have g2 : U.size = (Cod.down f 4 j).length := by rw [hU, str_size]
      have g3 : G.size ≤ 2001 := by omega
      have g4 : U.size ≤ 2001 := by omega
      rw [← hG] at C1
      rw [← hU]
      rw [← g1, ← g2] at U1
      have HJ := hid (show j + 1 ≤ 3 by omega)
      have HN1 := hid hn1
      clear hG hU g1 g2 l1 l2 l3 hc1 hn1 hj
      generalize ((4 - j - 1 : Nat) : Int) = q at *
      by_cases hs : G.size ≤ U.size
      · have hsI : (G.size : Int) ≤ (U.size : Int) := by omega
        rw [if_pos hs] at U1
        clear hs
        go_wp2_with fail
        refine Calls.mono (C1.out _ HX.out) ?_
        rintro e w3 ⟨rfl, hx⟩
        have X3 := hid (HX.out.then hx)
        clear hx
        go_wp2
        go_roundw
        case rel => exact ⟨j + 1, HJ.out, by rw [HN1.out], by rw [U1.out, ← HGU.out], X3⟩
        case measure => simp [intOf] <;> omega
      · have hsI : ¬ (G.size : Int) ≤ (U.size : Int) := by omega
        rw [if_neg hs] at U1
        clear hs
        go_wp2_with fail
        refine Calls.mono (C1.out _ HX.out) ?_
        rintro e w3 ⟨rfl, hx⟩
        have X3 := hid (HX.out.then hx)
        clear hx
        go_wp2
        go_roundw
        case rel => exact ⟨j + 1, HJ.out, by rw [HN1.out], by rw [U1.out, ← HUU.out], X3⟩
        case measure => simp [intOf] <;> omega
    · obtain rfl : j = 3 := by omega
      clear hlt hj
      go_wp2
      go_returns
      exact ⟨rfl, HX.out⟩
theorem bookWidth_any (n : Nat) (w : World) (hn : n ≤ 65) :
    Calls Tryz.prog 96 #[.int .i64 n] w fun e w' => e = .returned (.int .i64 (Cod.lw n : Nat)) ∧ w = w' := by
  rcases Nat.lt_or_ge 1 n with h1 | h1
  · obtain ⟨m, rfl⟩ : ∃ m, n = m + 1 := ⟨n - 1, by omega⟩
    have HF := hid (fun k (hk : k ≤ 64) wx => fits_any m k wx (by omega) (by omega))
    have hlw : Cod.lw (m + 1) = Lib.bitLen m := by rw [Cod.lw_pos (by omega)]; rfl
    have hle := Cod.lw_le hn
    rw [hlw] at hle ⊢
    have HFT := hid (fun k (hk : Lib.bitLen m ≤ k) => Bits.fitsB_true hk)
    have HFF := hid (fun k (hk : k < Lib.bitLen m) => Bits.fitsB_false hk)
    have hm : ((m + 1 : Nat) : Int) - 1 = (m : Int) := by omega
    have hmI : (m : Int) ≤ 64 := by omega
    have hgt : (1 : Int) < ((m + 1 : Nat) : Int) := by omega
    have hwu : IntKind.u64.wrap (m : Int) = (m : Int) := by rw [IntKind.wrap_u64]; omega
    generalize Lib.bitLen m = b at *
    clear hn h1 hlw
    generalize ((m + 1 : Nat) : Int) = q at *
    go_enter Tryz.func96, Tryz.ntmps96
    go_wp2
    go_loop [3] (fun c => ∃ k : Nat, k ≤ b ∧ c = .int .i64 k) (fun c => b - (intOf c).toNat)
    case atStart => exact ⟨0, Nat.zero_le _, rfl⟩
    case round =>
      obtain ⟨k, hk, rfl⟩ := hrel
      by_cases hlt : k < b
      · have C1 := hid (HF.out k (by omega))
        rw [HFF.out k hlt] at C1
        have hkI : (k : Int) ≤ 7 := by omega
        have HK := hid hlt
        clear hk hlt hle
        go_wp2_with (go_at_call 129; refine Calls.mono (C1.out _) ?_; rintro e _ ⟨rfl, rfl⟩)
        go_round
        case rel => exact ⟨k + 1, HK.out, by go_num⟩
        case measure => simp [intOf]; have := HK.out; omega
      · obtain rfl : k = b := by omega
        have C1 := hid (HF.out k (by omega))
        rw [HFT.out k (Nat.le_refl _)] at C1
        clear hk hlt
        go_wp2_with (go_at_call 129; refine Calls.mono (C1.out _) ?_; rintro e _ ⟨rfl, rfl⟩)
        go_returns
        exact ⟨rfl, rfl⟩
  · have hz : Cod.lw n = 0 := by unfold Cod.lw; split; rfl; rw [show n - 1 = 0 by omega]; rfl
    rw [hz]
    have hnI : ¬ (1 : Int) < (n : Int) := by omega
    have hd : decide ((1 : Int) < (n : Int)) = false := decide_eq_false hnI
    clear hn h1 hz
    go_enter Tryz.func96, Tryz.ntmps96
    go_wp2
    go_loop [3] (fun c => c = .int .i64 0) (fun _ => 0)
    case atStart => rfl
    case round =>
      subst hrel
      go_wp2_with fail
      go_returns
      exact ⟨rfl, rfl⟩
end Go.Proofs.YthgnipangcmanaaGreat
end
section
namespace Go.Proofs.YthgnipangcmanaaGreat
open Go.RowKit Hy
set_option maxRecDepth 100000 in
set_option maxHeartbeats 1600000 in
theorem textBytes_any (l : List (List UInt8)) (A : Option Addr) (n cap k : Nat) (w : World) (hn : l.length = n) (hr : Rd w A (txs l)) (hf : ∀ s ∈ l, s.length ≤ 16) (hnl : n ≤ 64) (h1 : 5 ≤ k) (h4 : k ≤ 7) :
    Calls Tryz.prog 63 #[.slice A n cap, .int .i64 k] w fun e w' => e = .returned (.string ⟨(Cod.tg (Cod.tx l) k).toArray⟩) ∧ Ext w w' := by
  have hfb := (Front.fitB_iff l).2 hf
  rw [Cod.tgn]
  obtain rfl | rfl | rfl : k = 5 ∨ k = 6 ∨ k = 7 := by omega
  · have HO1 := hid (fun wx => oneByte_any 5 wx (by decide) (by decide))
    rw [show ((5 : Int).toNat) = 5 from rfl] at HO1
    rw [Cod.tx5, show ((5 : Nat) : Int) = 5 from rfl]
    have HN := hid hn
    have HA := hid hr
    have HF := hid hf
    have HPA := hid (Cod.pln_at l)
    have HPL := hid (fun j => Cod.pln_le l j hf)
    have HPE := hid (Cod.pln_nil)
    have HNL := hid hnl
    clear hn hr hf hfb h1 h4 hnl
    go_enter Tryz.func63, Tryz.ntmps63
    go_wp2_with fail
    refine Calls.mono (HO1.out _) ?_
    rintro e w1 ⟨rfl, hx⟩
    have X1 := hid hx
    clear hx
    go_wp2
    go_loopw [5, 6] (fun v c wr => ∃ (k : Nat) (E : List UInt8), k ≤ n ∧ c = .int .i64 k ∧ Hid (E = UInt8.ofNat 5 :: Cod.pln (l.take k)) ∧ E.length ≤ 25 * k + 1 ∧ v = .string ⟨E.toArray⟩ ∧ Ext w wr) (fun _ c _ => n - (intOf c).toNat)
    case atStart => exact ⟨0, [UInt8.ofNat 5], Nat.zero_le _, rfl, hid (by rw [List.take_zero, HPE.out]), Nat.le_refl _, rfl, X1.out⟩
    case round =>
      obtain ⟨k, E, hk, rfl, HE, hE, rfl, X⟩ := hrel
      by_cases hlt : k < n
      · have hka : k < l.length := by rw [HN.out]; exact hlt
        obtain ⟨b1, o1, e1, l1, c1⟩ := HA.out.texts k hka
        subst e1
        have d1 := (X.cell (p := ⟨b1, o1 + k, none⟩) l1).trans (c1 k hka)
        have hx := HF.out l[k] (List.getElem_mem hka)
        have HS := HPA.out k hka
        have hle := HPL.out (k + 1)
        rw [HS] at hle
        generalize l[k] = s at *
        obtain ⟨S, hS⟩ : ∃ S : ByteArray, S = ⟨s.toArray⟩ := ⟨_, rfl⟩
        have hSz : S.size = s.length := by rw [hS, str_size]
        have hSI : (S.size : Int) ≤ 16 := by omega
        have hwu : IntKind.u64.wrap (S.size : Int) = (S.size : Int) := by rw [IntKind.wrap_u64]; omega
        obtain ⟨p1, hp1⟩ : ∃ p1 : ByteArray, p1 = ⟨(Vary.wr s.length).toArray⟩ := ⟨_, rfl⟩
        obtain ⟨EE, hEE⟩ : ∃ EE : ByteArray, EE = ⟨E.toArray⟩ := ⟨_, rfl⟩
        have G1 : Gives Tryz.prog 15 #[.int .u64 S.size] (.string p1) := fun wx => by rw [hp1, hSz]; exact varyBytes_any s.length wx (by omega)
        have hp1l : p1.size ≤ 9 := by rw [hp1, str_size, Vary.wr_len]; have := Vary.beh_le8 s.length; omega
        have hEl : EE.size ≤ 25 * k + 1 := by rw [hEE, str_size]; exact hE
        simp only [List.length_append] at hle
        have HNX := hid (show EE ++ (p1 ++ S) = ⟨(UInt8.ofNat 5 :: Cod.pln (l.take (k + 1))).toArray⟩ by
          rw [HS, hEE, hp1, hS, str_app, str_app, HE.out]; simp)
        have HLX := hid (show (UInt8.ofNat 5 :: Cod.pln (l.take (k + 1))).length ≤ 25 * (k + 1) + 1 by
          rw [HS]; simp only [List.length_cons, List.length_append]; omega)
        have hk64 := HNL.out
        rw [← hS] at d1
        rw [← hEE]
        have d3 := cell_regrown d1
        clear c1 HS hS hp1 hSz hka hE hle hEE hx
        go_wp2_with fail
        refine wp_region_quiet_below (by kernel_rfl) (by kernel_rfl) ?_
        repeat (go_big_quiet_step (first | (go_at_call 15; with_reducible exact G1.quiet _ _ _)))
        refine wpQuiet_nil ?_
        intro w9 hw9
        obtain ⟨p, rfl⟩ := hw9
        go_wp2
        go_roundw
        case rel => exact ⟨k + 1, _, by omega, by go_num, hid rfl, HLX.out, by rw [← HNX.out], X.then (ext_regrown _ p)⟩
        case measure => simp [intOf]; omega
      · obtain rfl : k = n := by omega
        have HE2 := hid (show E = UInt8.ofNat 5 :: Cod.pln l by rw [HE.out, List.take_of_length_le (by rw [HN.out]; exact Nat.le_refl _)])
        go_wp2
        go_returns
        exact ⟨by rw [← HE2.out]; rfl, X⟩
  · have hlen := Cod.tx_len l 6 (by omega) hf
    rw [Cod.tx6, Cod.bok_eq] at hlen ⊢
    simp only [List.length_append] at hlen
    have HO := hid (bookOf_any l A n cap w hn hr (by omega) (fun x hx => by have := hf x hx; omega))
    have HO1 := hid (fun wx => oneByte_any 6 wx (by decide) (by decide))
    rw [show ((6 : Int).toNat) = 6 from rfl] at HO1
    have hbl := Dct.bk_len l
    have hcl := Dct.cds_len l
    have hcf := Cod.cds_fit l (by omega)
    have hbf := Cod.bk_fit l hf
    obtain ⟨B, hB⟩ : ∃ B, B = Dct.bk l := ⟨_, rfl⟩
    obtain ⟨C, hC⟩ : ∃ C, C = Dct.cds l := ⟨_, rfl⟩
    rw [← hB] at HO hbl hbf hlen ⊢
    rw [← hB] at hcf
    rw [← hC] at HO hcl hcf hlen ⊢
    obtain ⟨b, hb⟩ : ∃ b, b = B.length := ⟨_, rfl⟩
    rw [← hb] at HO hbl hcf hlen ⊢
    have hlw := Cod.lw_le (n := b) (by omega)
    have HL := hid (fun wx => bookWidth_any b wx (by omega))
    have HV := hid (fun wx => varyBytes_any b wx (by omega))
    have HR := hid (fun A c wx h => packedOf_any C A n c (Cod.lw b) wx (by rw [hcl, hn]) h hcf (by omega) (by omega))
    have HFR := hid (fun A c wx h => frontBytes_any B A b c wx hb.symm h (by omega) ((Front.fitB_iff B).2 hbf))
    obtain ⟨lwb, hlwb⟩ : ∃ q, q = Cod.lw b := ⟨_, rfl⟩
    rw [← hlwb] at HL HR hlen ⊢
    obtain ⟨X1, hX1⟩ : ∃ S : ByteArray, S = ⟨(Vary.wr b).toArray⟩ := ⟨_, rfl⟩
    obtain ⟨X2, hX2⟩ : ∃ S : ByteArray, S = ⟨(Bits.packed C lwb).toArray⟩ := ⟨_, rfl⟩
    obtain ⟨X3, hX3⟩ : ∃ S : ByteArray, S = ⟨(Front.bytes B).toArray⟩ := ⟨_, rfl⟩
    have hz1 : X1.size ≤ 2000 := by rw [hX1, str_size]; omega
    have hz2 : X2.size ≤ 2000 := by rw [hX2, str_size]; omega
    have hz3 : X3.size ≤ 2000 := by rw [hX3, str_size]; omega
    have HVV := hid (show (⟨#[UInt8.ofNat 6]⟩ : ByteArray) ++ X1 ++ X2 ++ X3 = ⟨(UInt8.ofNat 6 :: (Vary.wr b ++ Bits.packed C lwb ++ Front.bytes B)).toArray⟩ by rw [hX1, hX2, hX3, str_cons, str_app, str_app]; rfl)
    have hz0 : (⟨#[UInt8.ofNat 6]⟩ : ByteArray).size = 1 := rfl
    generalize (⟨#[UInt8.ofNat 6]⟩ : ByteArray) = X0 at *
    rw [← hX1] at HV
    rw [← hX2] at HR
    rw [← hX3] at HFR
    have HCL := hid (show C.length = n by rw [hcl, hn])
    have hbI : (b : Int) ≤ 64 := by omega
    have hwu : IntKind.u64.wrap (b : Int) = (b : Int) := by rw [IntKind.wrap_u64]; omega
    clear hn hr hf hfb h1 h4 hnl hlen hbl hcl hcf hbf hB hC hb hlw hlwb hX1 hX2 hX3
    go_enter Tryz.func63, Tryz.ntmps63
    go_wp2_with fail
    refine Calls.mono HO.out ?_
    rintro e w1 ⟨B1, cb, C1, cc, rfl, hrb, hrc, hx⟩
    have HRB := hid hrb
    have HRC := hid hrc
    have Xp := hid hx
    clear hrb hrc hx
    rw [HCL.out]
    go_wp2_with fail
    refine Calls.mono (HO1.out _) ?_
    rintro e w0 ⟨rfl, hx⟩
    replace Xp := hid (Xp.out.then hx)
    replace HRB := hid (HRB.out.keep hx)
    replace HRC := hid (HRC.out.keep hx)
    clear hx
    go_wp2_with fail
    refine Calls.mono (HV.out _) ?_
    rintro e w2 ⟨rfl, hx⟩
    replace Xp := hid (Xp.out.then hx)
    replace HRB := hid (HRB.out.keep hx)
    replace HRC := hid (HRC.out.keep hx)
    clear hx
    go_wp2_with fail
    refine Calls.mono (HL.out _) ?_
    rintro e _ ⟨rfl, rfl⟩
    go_wp2_with fail
    refine Calls.mono (HR.out _ _ _ HRC.out) ?_
    rintro e w4 ⟨rfl, hx⟩
    replace Xp := hid (Xp.out.then hx)
    replace HRB := hid (HRB.out.keep hx)
    clear hx
    go_wp2_with fail
    refine Calls.mono (HFR.out _ _ _ HRB.out) ?_
    rintro e w5 ⟨rfl, hx⟩
    replace Xp := hid (Xp.out.then hx)
    clear hx
    go_wp2
    go_returns
    exact ⟨by rw [← HVV.out]; rfl, Xp.out⟩
  · have hlen := Cod.tx_len l 7 (by omega) hf
    rw [Cod.tx7] at hlen ⊢
    have HC := hid (fun wx (hx : Ext w wx) => frontBytes_any l A n cap wx hn (hr.keep hx) hnl hfb)
    have HO1 := hid (fun wx => oneByte_any 7 wx (by decide) (by decide))
    rw [show ((7 : Int).toNat) = 7 from rfl] at HO1
    obtain ⟨X3, hX3⟩ : ∃ S : ByteArray, S = ⟨(Front.bytes l).toArray⟩ := ⟨_, rfl⟩
    have hz3 : X3.size ≤ 2000 := by rw [hX3, str_size]; exact hlen
    have HVV := hid (show (⟨#[UInt8.ofNat 7]⟩ : ByteArray) ++ X3 = ⟨(UInt8.ofNat 7 :: Front.bytes l).toArray⟩ by rw [hX3, str_cons])
    have hz0 : (⟨#[UInt8.ofNat 7]⟩ : ByteArray).size = 1 := rfl
    generalize (⟨#[UInt8.ofNat 7]⟩ : ByteArray) = X0 at *
    rw [← hX3] at HC
    clear hn hr hf hfb h1 h4 hnl hlen hX3
    go_enter Tryz.func63, Tryz.ntmps63
    go_wp2_with fail
    refine Calls.mono (HO1.out _) ?_
    rintro e w1 ⟨rfl, hx⟩
    have Xp := hid hx
    clear hx
    go_wp2_with fail
    refine Calls.mono (HC.out _ Xp.out) ?_
    rintro e w2 ⟨rfl, hx⟩
    replace Xp := hid (Xp.out.then hx)
    clear hx
    go_wp2
    go_returns
    exact ⟨by rw [← HVV.out]; rfl, Xp.out⟩
set_option maxHeartbeats 800000 in
theorem bestTextBytes_any (l : List (List UInt8)) (A : Option Addr) (n cap : Nat) (w : World) (hn : l.length = n) (hr : Rd w A (txs l)) (hf : ∀ s ∈ l, s.length ≤ 16) (hnl : n ≤ 64) :
    Calls Tryz.prog 39 #[.slice A n cap] w fun e w' => e = .returned (.string ⟨(Cod.up (Cod.tx l) 5 2).toArray⟩) ∧ Ext w w' := by
  have HC := hid (fun (k : Nat) (h1 : 5 ≤ k) (h4 : k ≤ 7) wx (hx : Ext w wx) => textBytes_any l A n cap k wx hn (hr.keep hx) hf hnl h1 h4)
  have HLN := hid (fun k => Cod.tx_len l k (by omega) hf)
  rw [← Cod.down7]
  have HTL := hid (fun k => Cod.tg_len (Cod.tx l) k)
  have HS0 := hid (Cod.down_zero (Cod.tx l) 7)
  have HSS := hid (fun j => Cod.down_succ (Cod.tx l) 7 j)
  have HDL := hid (fun j => Cod.down_len (Cod.tx l) 7 j 2000 HLN.out)
  generalize Cod.tx l = f at *
  clear hn hr hf hnl
  go_enter Tryz.func39, Tryz.ntmps39
  go_wp2_with fail
  refine Calls.mono (HC.out 7 (by decide) (by decide) _ (ext_refl _)) ?_
  rintro e w1 ⟨rfl, hx⟩
  have X1 := hid hx
  clear hx
  rw [← HS0.out]
  go_wp2
  go_loopw [3, 4, 5] (fun v c _ wr => ∃ j : Nat, j ≤ 2 ∧ c = .int .i64 (6 - (j : Int)) ∧ v = .string ⟨(Cod.down f 7 j).toArray⟩ ∧ Hid (Ext w wr)) (fun _ c _ _ => (intOf c - 5 + 1).toNat)
  case atStart => exact ⟨0, Nat.zero_le _, rfl, rfl, X1⟩
  case round =>
    obtain ⟨j, hj, rfl, rfl, HX⟩ := hrel
    by_cases hlt : j < 2
    · have hc1 : (6 : Int) - (j : Int) = ((7 - j - 1 : Nat) : Int) := by omega
      have hjI : 5 ≤ ((7 - j - 1 : Nat) : Int) := by omega
      have hjU : ((7 - j - 1 : Nat) : Int) ≤ 7 := by omega
      have C1 := hid (HC.out (7 - j - 1) (by omega) (by omega))
      have U1 := hid (HSS.out j)
      have l1 := HDL.out j
      have l2 := HLN.out (7 - j - 1)
      have l3 := HTL.out (7 - j - 1)
      have hn1 : ((7 - j - 1 : Nat) : Int) - 1 = 6 - ((j + 1 : Nat) : Int) := by omega
      rw [hc1]
      obtain ⟨G, hG⟩ : ∃ S : ByteArray, S = ⟨(Cod.tg f (7 - j - 1)).toArray⟩ := ⟨_, rfl⟩
      obtain ⟨U, hU⟩ : ∃ S : ByteArray, S = ⟨(Cod.down f 7 j).toArray⟩ := ⟨_, rfl⟩
      have HGU := hid hG
      have HUU := hid hU
      have g1 : G.size = (Cod.tg f (7 - j - 1)).length := by rw [hG, str_size]
      have g2 : U.size = (Cod.down f 7 j).length := by rw [hU, str_size]
      have g3 : G.size ≤ 2001 := by omega
      have g4 : U.size ≤ 2001 := by omega
      rw [← hG] at C1
      rw [← hU]
      rw [← g1, ← g2] at U1
      have HJ := hid (show j + 1 ≤ 2 by omega)
      have HN1 := hid hn1
      clear hG hU g1 g2 l1 l2 l3 hc1 hn1 hj
      generalize ((7 - j - 1 : Nat) : Int) = q at *
      by_cases hs : G.size ≤ U.size
      · have hsI : (G.size : Int) ≤ (U.size : Int) := by omega
        rw [if_pos hs] at U1
        clear hs
        go_wp2_with fail
        refine Calls.mono (C1.out _ HX.out) ?_
        rintro e w3 ⟨rfl, hx⟩
        have X3 := hid (HX.out.then hx)
        clear hx
        go_wp2
        go_roundw
        case rel => exact ⟨j + 1, HJ.out, by rw [HN1.out], by rw [U1.out, ← HGU.out], X3⟩
        case measure => simp [intOf] <;> omega
      · have hsI : ¬ (G.size : Int) ≤ (U.size : Int) := by omega
        rw [if_neg hs] at U1
        clear hs
        go_wp2_with fail
        refine Calls.mono (C1.out _ HX.out) ?_
        rintro e w3 ⟨rfl, hx⟩
        have X3 := hid (HX.out.then hx)
        clear hx
        go_wp2
        go_roundw
        case rel => exact ⟨j + 1, HJ.out, by rw [HN1.out], by rw [U1.out, ← HUU.out], X3⟩
        case measure => simp [intOf] <;> omega
    · obtain rfl : j = 2 := by omega
      clear hlt hj
      go_wp2
      go_returns
      exact ⟨rfl, HX.out⟩
end Go.Proofs.YthgnipangcmanaaGreat
end
