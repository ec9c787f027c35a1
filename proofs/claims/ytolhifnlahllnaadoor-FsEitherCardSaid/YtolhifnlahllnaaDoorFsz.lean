/- Files: do: walk (printed by gen_fsz.py). -/
import Derived.Test.YtolhifnlahllnaaDoorFsy
namespace Hy.Fs
open Go
/-- an op, ahead of the sweep -/
def dob (f : FSy) (o : Opn) : FSy × Nat :=
  if o.1 = 1 then wrt f o.2.1 o.2.2.2
  else if o.1 = 5 then ((f.1, f.2.1, f.2.1), 0)
  else if nof f.2.1 o.2.1 < 0 then (fs0, 5)
  else if o.1 = 2 then ((synL f.1 (nof f.2.1 o.2.1).toNat, f.2.1, f.2.2), 0)
  else if o.1 = 3 then ((f.1, wth (wout f.2.1 o.2.1) (o.2.2.1, nof f.2.1 o.2.1), f.2.2), 0)
  else ((f.1, wout f.2.1 o.2.1, f.2.2), 0)
theorem raw_dob {f : FSy} (h : Ok f) {o : Opn} (ho : opck o = 0) : raw f o = if (dob f o).2 ≠ 0 then (fs0, (dob f o).2) else (swp (dob f o).1, 0) := by
  obtain ⟨k1, k2, k3, k4, k5⟩ := opck_zero ho
  unfold raw dob
  by_cases h1 : o.1 = 1
  · rw [if_pos h1, if_pos h1]
    by_cases h0 : (wrt f o.2.1 o.2.2.2).2 = 0
    · rw [if_neg (by omega), swp_id (wrt_ok h (k3 (by omega)) k5 h0).1]
      exact Prod.ext rfl h0
    · rw [if_pos h0]
      unfold wrt at h0 ⊢
      split
      · split
        · rfl
        · rename_i h2 h3; rw [if_pos h2, if_neg h3] at h0; exact absurd rfl h0
      · rename_i h2; rw [if_neg h2] at h0; exact absurd rfl h0
  rw [if_neg h1, if_neg h1]
  by_cases h5 : o.1 = 5
  · rw [if_pos h5, if_pos h5]; rfl
  rw [if_neg h5, if_neg h5]
  by_cases hn : nof f.2.1 o.2.1 < 0
  · rw [if_pos hn, if_pos hn]; rfl
  rw [if_neg hn, if_neg hn]
  by_cases h2 : o.1 = 2
  · rw [if_pos h2, if_pos h2]; rfl
  rw [if_neg h2, if_neg h2]
  by_cases h3 : o.1 = 3
  · rw [if_pos h3, if_pos h3]; rfl
  rw [if_neg h3, if_neg h3]
  rfl
end Hy.Fs
namespace Go.Proofs.YtolhifnlahllnaaDoor
open Go.RowKit Hy
set_option maxHeartbeats 1600000 in
set_option maxRecDepth 100000 in
theorem do_k1 (f : Fs.FSy) (nn tt xx : ByteArray) (base g : Nat) (w : World) (hdk : Dsk w base g f) (hbw : base ≤ w.heap.size) (h24 : f.1.length ≤ 24) (hgd : Fs.Good f.1.length f.2.1) :
    Calls Tryd.prog 39 #[.pointer (some ⟨g, 0, none⟩), Fs.opV (1, nn, tt, xx)] w fun e w' => e = .returned (.int .i64 ((Fs.wrt f nn xx).2 : Nat)) ∧ ((Fs.wrt f nn xx).2 = 0 → Dsk w' base g (Fs.wrt f nn xx).1) ∧ Below base w w' := by
  have HD := hid hdk
  obtain ⟨A1, c1, A2, c2, A3, c3, hb, hbg, o1, o2, o3, hdj⟩ := hdk
  obtain ⟨n, hn⟩ : ∃ n, n = f.1.length := ⟨_, rfl⟩
  obtain ⟨m, hm⟩ : ∃ m, m = f.2.1.length := ⟨_, rfl⟩
  obtain ⟨q, hq⟩ : ∃ q, q = f.2.2.length := ⟨_, rfl⟩
  have hmn := Fs.good_len hgd
  rw [← hn] at hb o1 hmn
  rw [← hm] at hb o2 hmn
  rw [← hq] at hb o3
  have hm24 : m ≤ 24 := by omega
  have hrd := (own_rd o2).1
  have HAT := hid (fun wx (hx : Ext w wx) => at_any f.2.1 A2 m c2 nn wx hm.symm (hrd.keep hx) (by omega) hgd.2.1)
  obtain ⟨pp, hpp⟩ : ∃ p, p = Dct.plc (Fs.nms f.2.1) nn.data.toList := ⟨_, rfl⟩
  obtain ⟨bb, hbb⟩ : ∃ b, b = decide (nn.data.toList ∈ Fs.nms f.2.1) := ⟨_, rfl⟩
  rw [← hpp, ← hbb] at HAT
  obtain ⟨r, hr⟩ : ∃ r, r = (Fs.wrt f nn xx).2 := ⟨_, rfl⟩
  rw [← hr]
  have HR := hid hr
  have HN := hid hn; have HM := hid hm; have HQ := hid hq
  have HB := hid hb; have HO1 := hid o1; have HO2 := hid o2; have HO3 := hid o3; have HDJ := hid hdj
  have HBW := hid hbw; have HBG := hid hbg
  have HGD := hid hgd
  have H24 := hid h24
  have HM24 := hid hm24
  have lg : g < w.heap.size := hb.lt
  have XO : Hid (Ext w (w.alloc (.cells #[.int .i64 1, .string nn, .string tt, .string xx] 27))) := hid (Ext.new (ext_refl w) _)
  have BO := hid (Blk.new w 27 #[.int .i64 1, .string nn, .string tt, .string xx])
  show Calls _ _ #[_, .agg #[.int .i64 1, .string nn, .string tt, .string xx]] w _
  clear hn hm hq hmn hm24 hrd hb hbg o1 o2 o3 hdj hbw h24 hgd hpp hbb hr
  go_enter Tryd.func39, Tryd.ntmps39
  go_upto_region 1 with fail
  generalize w.alloc (.cells #[.int .i64 1, .string nn, .string tt, .string xx] 27) = wz at XO BO ⊢
  have g1 := (HB.out.keep XO.out).cell 1
  have g1r := cell_regrown g1
  have p1r := cell_regrown (BO.out.cell 1)
  refine wp_region_walk [(0, true), (1, true), (2, true), (3, true), (4, true), (5, true), (6, true), (7, false), (8, true), (9, true), (10, true), (11, true), (12, true)] (by kernel_rfl) (by kernel_rfl) (fun _ _ _ _ _ h => h) (by kernel_rfl) (by rfl) ?_
  simp only [List.filterMap_cons, List.filterMap_nil, List.getElem?_toArray, List.getElem?_cons_zero, List.getElem?_cons_succ, Option.map_some]
  repeat (refine wpM_val (by rfl) ?_; intro K hK; go_big_quiet_op; go_big_quiet_on)
  refine wpM_do (by rfl) ?_
  intro K hK
  go_simp
  have Y0 : Ext wz wz.drew := (ext_refl wz).draw
  refine Calls.mono (HAT.out _ (XO.out.then Y0)) ?_
  rintro e w1 ⟨rfl, hx⟩
  have Y1 := Ext.then Y0 hx
  refine hK _ _ Y1 ?_
  clear K hK hx
  have X1 : Hid (Ext w w1) := hid (XO.out.then Y1)
  have B1 := hid (BO.out.keep Y1)
  have D1 := hid (Dsk.ext HD.out X1.out)
  have W1 := hid (Below.mono X1.out HBW.out)
  have S1 := hid (Nat.le_trans HBW.out X1.out.size)
  clear Y0 Y1 g1 g1r p1r
  repeat (refine wpM_val (by rfl) ?_; intro K hK; go_big_quiet_op; go_big_quiet_on)
  refine wpM_nil ?_
  have q0 := B1.out.cell 0
  have q1 := B1.out.cell 1
  have q2 := B1.out.cell 2
  have q3 := B1.out.cell 3
  have HW := hid (write_any f nn xx base g w1 D1.out S1.out H24.out HGD.out)
  rw [← HR.out] at HW
  go_wp2_with fail
  refine Calls.mono HW.out ?_
  rintro e w2 ⟨rfl, h1, h2⟩
  have R1 := hid h1
  have R2 := hid (W1.out.trans h2)
  clear h1 h2 q0 q1 q2 q3
  go_wp2
  go_returns
  exact ⟨rfl, R1.out, R2.out⟩
set_option maxHeartbeats 1600000 in
set_option maxRecDepth 100000 in
theorem do_k5 (f : Fs.FSy) (nn tt xx : ByteArray) (base g : Nat) (w : World) (hdk : Dsk w base g f) (hbw : base ≤ w.heap.size) (h24 : f.1.length ≤ 24) (hgd : Fs.Good f.1.length f.2.1) :
    Calls Tryd.prog 39 #[.pointer (some ⟨g, 0, none⟩), Fs.opV (5, nn, tt, xx)] w fun e w' => e = .returned (.int .i64 0) ∧ Dsk w' base g (f.1, f.2.1, f.2.1) ∧ Below base w w' := by
  have HD := hid hdk
  obtain ⟨A1, c1, A2, c2, A3, c3, hb, hbg, o1, o2, o3, hdj⟩ := hdk
  obtain ⟨n, hn⟩ : ∃ n, n = f.1.length := ⟨_, rfl⟩
  obtain ⟨m, hm⟩ : ∃ m, m = f.2.1.length := ⟨_, rfl⟩
  obtain ⟨q, hq⟩ : ∃ q, q = f.2.2.length := ⟨_, rfl⟩
  have hmn := Fs.good_len hgd
  rw [← hn] at hb o1 hmn
  rw [← hm] at hb o2 hmn
  rw [← hq] at hb o3
  have hm24 : m ≤ 24 := by omega
  have hrd := (own_rd o2).1
  have HAT := hid (fun wx (hx : Ext w wx) => at_any f.2.1 A2 m c2 nn wx hm.symm (hrd.keep hx) (by omega) hgd.2.1)
  obtain ⟨pp, hpp⟩ : ∃ p, p = Dct.plc (Fs.nms f.2.1) nn.data.toList := ⟨_, rfl⟩
  obtain ⟨bb, hbb⟩ : ∃ b, b = decide (nn.data.toList ∈ Fs.nms f.2.1) := ⟨_, rfl⟩
  rw [← hpp, ← hbb] at HAT
  have HN := hid hn; have HM := hid hm; have HQ := hid hq
  have HB := hid hb; have HO1 := hid o1; have HO2 := hid o2; have HO3 := hid o3; have HDJ := hid hdj
  have HBW := hid hbw; have HBG := hid hbg
  have HGD := hid hgd
  have H24 := hid h24
  have HM24 := hid hm24
  have lg : g < w.heap.size := hb.lt
  have XO : Hid (Ext w (w.alloc (.cells #[.int .i64 5, .string nn, .string tt, .string xx] 27))) := hid (Ext.new (ext_refl w) _)
  have BO := hid (Blk.new w 27 #[.int .i64 5, .string nn, .string tt, .string xx])
  show Calls _ _ #[_, .agg #[.int .i64 5, .string nn, .string tt, .string xx]] w _
  clear hn hm hq hmn hm24 hrd hb hbg o1 o2 o3 hdj hbw h24 hgd hpp hbb
  go_enter Tryd.func39, Tryd.ntmps39
  go_upto_region 1 with fail
  generalize w.alloc (.cells #[.int .i64 5, .string nn, .string tt, .string xx] 27) = wz at XO BO ⊢
  have g1 := (HB.out.keep XO.out).cell 1
  have g1r := cell_regrown g1
  have p1r := cell_regrown (BO.out.cell 1)
  refine wp_region_walk [(0, true), (1, true), (2, true), (3, true), (4, true), (5, true), (6, true), (7, false), (8, true), (9, true), (10, true), (11, true), (12, true)] (by kernel_rfl) (by kernel_rfl) (fun _ _ _ _ _ h => h) (by kernel_rfl) (by rfl) ?_
  simp only [List.filterMap_cons, List.filterMap_nil, List.getElem?_toArray, List.getElem?_cons_zero, List.getElem?_cons_succ, Option.map_some]
  repeat (refine wpM_val (by rfl) ?_; intro K hK; go_big_quiet_op; go_big_quiet_on)
  refine wpM_do (by rfl) ?_
  intro K hK
  go_simp
  have Y0 : Ext wz wz.drew := (ext_refl wz).draw
  refine Calls.mono (HAT.out _ (XO.out.then Y0)) ?_
  rintro e w1 ⟨rfl, hx⟩
  have Y1 := Ext.then Y0 hx
  refine hK _ _ Y1 ?_
  clear K hK hx
  have X1 : Hid (Ext w w1) := hid (XO.out.then Y1)
  have B1 := hid (BO.out.keep Y1)
  have D1 := hid (Dsk.ext HD.out X1.out)
  have W1 := hid (Below.mono X1.out HBW.out)
  have S1 := hid (Nat.le_trans HBW.out X1.out.size)
  clear Y0 Y1 g1 g1r p1r
  repeat (refine wpM_val (by rfl) ?_; intro K hK; go_big_quiet_op; go_big_quiet_on)
  refine wpM_nil ?_
  have q0 := B1.out.cell 0
  have q1 := B1.out.cell 1
  have q2 := B1.out.cell 2
  have q3 := B1.out.cell 3
  have G1 := hid (HB.out.keep X1.out)
  have O1 := hid (own_ext HO1.out X1.out)
  have O2 := hid (own_ext HO2.out X1.out)
  have O3 := hid (own_ext HO3.out X1.out)
  have g0 := G1.out.cell 0
  have g1 := G1.out.cell 1
  have g2 := G1.out.cell 2
  have hf0 := G1.out.frozen 0
  have hf1 := G1.out.frozen 1
  have hf2 := G1.out.frozen 2
  have HCL := hid (cloneE_any f.2.1 A2 m c2 w1 HM.out.symm (own_rd O2.out).1 (own_rd O2.out).2.1 (by have := HM24.out; omega))
  go_wp2_with fail
  refine Calls.mono HCL.out ?_
  rintro e w2 ⟨B, c, rfl, h1, h2⟩
  have R3 := hid (own_low' h1 S1.out)
  have HD23 := hid (show ∀ a2 a3, A2 = some a2 → B = some a3 → a2.block ≠ a3.block from fun a2 a3 e2 e3 e => by
    subst e2 e3
    have k1 := (own_block_rng O2.out rfl).2
    have k2 := (own_block_rng h1 rfl).1
    omega)
  have HNB := hid (show (Value.slice B m c).ownBlock ≠ some g from fun e => by have k2 := (own_block_rng h1 e).1; have k3 := G1.out.lt; omega)
  have X2 := hid h2
  have G2 := hid (G1.out.keep h2)
  clear h1 h2 q0 q1 q2 q3 g0 g1 g2 hf0 hf1 hf2
  have g2 := G2.out.cell 2
  have hf2 := G2.out.frozen 2
  go_wp2
  go_returns
  refine ⟨rfl, ⟨A1, c1, A2, c2, B, c, ?_, HBG.out, ?_, ?_, ?_, HD23.out⟩, Below.setCell (Below.trans W1.out (Below.mono X2.out S1.out)) HBG.out (p := ⟨g, 2, none⟩) _⟩
  · simp only; rw [← HN.out, ← HM.out]; exact (G2.out.set 2 (.slice B m c)).cast (by simp)
  · simp only; rw [← HN.out]; exact own_put (own_ext O1.out X2.out) (p := ⟨g, 2, none⟩) (own_nblk O1.out G1.out (by decide)) _
  · simp only; rw [← HM.out]; exact own_put (own_ext O2.out X2.out) (p := ⟨g, 2, none⟩) (own_nblk O2.out G1.out (by decide)) _
  · simp only; rw [← HM.out]; exact own_put R3.out (p := ⟨g, 2, none⟩) HNB.out _
set_option maxHeartbeats 1600000 in
set_option maxRecDepth 100000 in
theorem do_no2 (f : Fs.FSy) (nn tt xx : ByteArray) (base g : Nat) (w : World) (hdk : Dsk w base g f) (hbw : base ≤ w.heap.size) (h24 : f.1.length ≤ 24) (hgd : Fs.Good f.1.length f.2.1) (hs : nn.data.toList ∉ Fs.nms f.2.1) :
    Calls Tryd.prog 39 #[.pointer (some ⟨g, 0, none⟩), Fs.opV (2, nn, tt, xx)] w fun e w' => e = .returned (.int .i64 5) ∧ Below base w w' := by
  have HD := hid hdk
  obtain ⟨A1, c1, A2, c2, A3, c3, hb, hbg, o1, o2, o3, hdj⟩ := hdk
  obtain ⟨n, hn⟩ : ∃ n, n = f.1.length := ⟨_, rfl⟩
  obtain ⟨m, hm⟩ : ∃ m, m = f.2.1.length := ⟨_, rfl⟩
  obtain ⟨q, hq⟩ : ∃ q, q = f.2.2.length := ⟨_, rfl⟩
  have hmn := Fs.good_len hgd
  rw [← hn] at hb o1 hmn
  rw [← hm] at hb o2 hmn
  rw [← hq] at hb o3
  have hm24 : m ≤ 24 := by omega
  have hrd := (own_rd o2).1
  have HAT := hid (fun wx (hx : Ext w wx) => at_any f.2.1 A2 m c2 nn wx hm.symm (hrd.keep hx) (by omega) hgd.2.1)
  rw [decide_eq_false hs] at HAT
  obtain ⟨pp, hpp⟩ : ∃ p, p = Dct.plc (Fs.nms f.2.1) nn.data.toList := ⟨_, rfl⟩
  rw [← hpp] at HAT
  have HN := hid hn; have HM := hid hm; have HQ := hid hq
  have HB := hid hb; have HO1 := hid o1; have HO2 := hid o2; have HO3 := hid o3; have HDJ := hid hdj
  have HBW := hid hbw; have HBG := hid hbg
  have HGD := hid hgd
  have H24 := hid h24
  have HM24 := hid hm24
  have lg : g < w.heap.size := hb.lt
  have XO : Hid (Ext w (w.alloc (.cells #[.int .i64 2, .string nn, .string tt, .string xx] 27))) := hid (Ext.new (ext_refl w) _)
  have BO := hid (Blk.new w 27 #[.int .i64 2, .string nn, .string tt, .string xx])
  show Calls _ _ #[_, .agg #[.int .i64 2, .string nn, .string tt, .string xx]] w _
  clear hn hm hq hmn hm24 hrd hb hbg o1 o2 o3 hdj hbw h24 hgd hpp hs
  go_enter Tryd.func39, Tryd.ntmps39
  go_upto_region 1 with fail
  generalize w.alloc (.cells #[.int .i64 2, .string nn, .string tt, .string xx] 27) = wz at XO BO ⊢
  have g1 := (HB.out.keep XO.out).cell 1
  have g1r := cell_regrown g1
  have p1r := cell_regrown (BO.out.cell 1)
  refine wp_region_walk [(0, true), (1, true), (2, true), (3, true), (4, true), (5, true), (6, true), (7, false), (8, true), (9, true), (10, true), (11, true), (12, true)] (by kernel_rfl) (by kernel_rfl) (fun _ _ _ _ _ h => h) (by kernel_rfl) (by rfl) ?_
  simp only [List.filterMap_cons, List.filterMap_nil, List.getElem?_toArray, List.getElem?_cons_zero, List.getElem?_cons_succ, Option.map_some]
  repeat (refine wpM_val (by rfl) ?_; intro K hK; go_big_quiet_op; go_big_quiet_on)
  refine wpM_do (by rfl) ?_
  intro K hK
  go_simp
  have Y0 : Ext wz wz.drew := (ext_refl wz).draw
  refine Calls.mono (HAT.out _ (XO.out.then Y0)) ?_
  rintro e w1 ⟨rfl, hx⟩
  have Y1 := Ext.then Y0 hx
  refine hK _ _ Y1 ?_
  clear K hK hx
  have X1 : Hid (Ext w w1) := hid (XO.out.then Y1)
  have B1 := hid (BO.out.keep Y1)
  have D1 := hid (Dsk.ext HD.out X1.out)
  have W1 := hid (Below.mono X1.out HBW.out)
  have S1 := hid (Nat.le_trans HBW.out X1.out.size)
  clear Y0 Y1 g1 g1r p1r
  repeat (refine wpM_val (by rfl) ?_; intro K hK; go_big_quiet_op; go_big_quiet_on)
  refine wpM_nil ?_
  have q0 := B1.out.cell 0
  have q1 := B1.out.cell 1
  have q2 := B1.out.cell 2
  have q3 := B1.out.cell 3
  go_wp2
  go_returns
  exact ⟨rfl, W1.out⟩
set_option maxHeartbeats 1600000 in
set_option maxRecDepth 100000 in
theorem do_no3 (f : Fs.FSy) (nn tt xx : ByteArray) (base g : Nat) (w : World) (hdk : Dsk w base g f) (hbw : base ≤ w.heap.size) (h24 : f.1.length ≤ 24) (hgd : Fs.Good f.1.length f.2.1) (hs : nn.data.toList ∉ Fs.nms f.2.1) :
    Calls Tryd.prog 39 #[.pointer (some ⟨g, 0, none⟩), Fs.opV (3, nn, tt, xx)] w fun e w' => e = .returned (.int .i64 5) ∧ Below base w w' := by
  have HD := hid hdk
  obtain ⟨A1, c1, A2, c2, A3, c3, hb, hbg, o1, o2, o3, hdj⟩ := hdk
  obtain ⟨n, hn⟩ : ∃ n, n = f.1.length := ⟨_, rfl⟩
  obtain ⟨m, hm⟩ : ∃ m, m = f.2.1.length := ⟨_, rfl⟩
  obtain ⟨q, hq⟩ : ∃ q, q = f.2.2.length := ⟨_, rfl⟩
  have hmn := Fs.good_len hgd
  rw [← hn] at hb o1 hmn
  rw [← hm] at hb o2 hmn
  rw [← hq] at hb o3
  have hm24 : m ≤ 24 := by omega
  have hrd := (own_rd o2).1
  have HAT := hid (fun wx (hx : Ext w wx) => at_any f.2.1 A2 m c2 nn wx hm.symm (hrd.keep hx) (by omega) hgd.2.1)
  rw [decide_eq_false hs] at HAT
  obtain ⟨pp, hpp⟩ : ∃ p, p = Dct.plc (Fs.nms f.2.1) nn.data.toList := ⟨_, rfl⟩
  rw [← hpp] at HAT
  have HN := hid hn; have HM := hid hm; have HQ := hid hq
  have HB := hid hb; have HO1 := hid o1; have HO2 := hid o2; have HO3 := hid o3; have HDJ := hid hdj
  have HBW := hid hbw; have HBG := hid hbg
  have HGD := hid hgd
  have H24 := hid h24
  have HM24 := hid hm24
  have lg : g < w.heap.size := hb.lt
  have XO : Hid (Ext w (w.alloc (.cells #[.int .i64 3, .string nn, .string tt, .string xx] 27))) := hid (Ext.new (ext_refl w) _)
  have BO := hid (Blk.new w 27 #[.int .i64 3, .string nn, .string tt, .string xx])
  show Calls _ _ #[_, .agg #[.int .i64 3, .string nn, .string tt, .string xx]] w _
  clear hn hm hq hmn hm24 hrd hb hbg o1 o2 o3 hdj hbw h24 hgd hpp hs
  go_enter Tryd.func39, Tryd.ntmps39
  go_upto_region 1 with fail
  generalize w.alloc (.cells #[.int .i64 3, .string nn, .string tt, .string xx] 27) = wz at XO BO ⊢
  have g1 := (HB.out.keep XO.out).cell 1
  have g1r := cell_regrown g1
  have p1r := cell_regrown (BO.out.cell 1)
  refine wp_region_walk [(0, true), (1, true), (2, true), (3, true), (4, true), (5, true), (6, true), (7, false), (8, true), (9, true), (10, true), (11, true), (12, true)] (by kernel_rfl) (by kernel_rfl) (fun _ _ _ _ _ h => h) (by kernel_rfl) (by rfl) ?_
  simp only [List.filterMap_cons, List.filterMap_nil, List.getElem?_toArray, List.getElem?_cons_zero, List.getElem?_cons_succ, Option.map_some]
  repeat (refine wpM_val (by rfl) ?_; intro K hK; go_big_quiet_op; go_big_quiet_on)
  refine wpM_do (by rfl) ?_
  intro K hK
  go_simp
  have Y0 : Ext wz wz.drew := (ext_refl wz).draw
  refine Calls.mono (HAT.out _ (XO.out.then Y0)) ?_
  rintro e w1 ⟨rfl, hx⟩
  have Y1 := Ext.then Y0 hx
  refine hK _ _ Y1 ?_
  clear K hK hx
  have X1 : Hid (Ext w w1) := hid (XO.out.then Y1)
  have B1 := hid (BO.out.keep Y1)
  have D1 := hid (Dsk.ext HD.out X1.out)
  have W1 := hid (Below.mono X1.out HBW.out)
  have S1 := hid (Nat.le_trans HBW.out X1.out.size)
  clear Y0 Y1 g1 g1r p1r
  repeat (refine wpM_val (by rfl) ?_; intro K hK; go_big_quiet_op; go_big_quiet_on)
  refine wpM_nil ?_
  have q0 := B1.out.cell 0
  have q1 := B1.out.cell 1
  have q2 := B1.out.cell 2
  have q3 := B1.out.cell 3
  go_wp2
  go_returns
  exact ⟨rfl, W1.out⟩
set_option maxHeartbeats 1600000 in
set_option maxRecDepth 100000 in
theorem do_no4 (f : Fs.FSy) (nn tt xx : ByteArray) (base g : Nat) (w : World) (hdk : Dsk w base g f) (hbw : base ≤ w.heap.size) (h24 : f.1.length ≤ 24) (hgd : Fs.Good f.1.length f.2.1) (hs : nn.data.toList ∉ Fs.nms f.2.1) :
    Calls Tryd.prog 39 #[.pointer (some ⟨g, 0, none⟩), Fs.opV (4, nn, tt, xx)] w fun e w' => e = .returned (.int .i64 5) ∧ Below base w w' := by
  have HD := hid hdk
  obtain ⟨A1, c1, A2, c2, A3, c3, hb, hbg, o1, o2, o3, hdj⟩ := hdk
  obtain ⟨n, hn⟩ : ∃ n, n = f.1.length := ⟨_, rfl⟩
  obtain ⟨m, hm⟩ : ∃ m, m = f.2.1.length := ⟨_, rfl⟩
  obtain ⟨q, hq⟩ : ∃ q, q = f.2.2.length := ⟨_, rfl⟩
  have hmn := Fs.good_len hgd
  rw [← hn] at hb o1 hmn
  rw [← hm] at hb o2 hmn
  rw [← hq] at hb o3
  have hm24 : m ≤ 24 := by omega
  have hrd := (own_rd o2).1
  have HAT := hid (fun wx (hx : Ext w wx) => at_any f.2.1 A2 m c2 nn wx hm.symm (hrd.keep hx) (by omega) hgd.2.1)
  rw [decide_eq_false hs] at HAT
  obtain ⟨pp, hpp⟩ : ∃ p, p = Dct.plc (Fs.nms f.2.1) nn.data.toList := ⟨_, rfl⟩
  rw [← hpp] at HAT
  have HN := hid hn; have HM := hid hm; have HQ := hid hq
  have HB := hid hb; have HO1 := hid o1; have HO2 := hid o2; have HO3 := hid o3; have HDJ := hid hdj
  have HBW := hid hbw; have HBG := hid hbg
  have HGD := hid hgd
  have H24 := hid h24
  have HM24 := hid hm24
  have lg : g < w.heap.size := hb.lt
  have XO : Hid (Ext w (w.alloc (.cells #[.int .i64 4, .string nn, .string tt, .string xx] 27))) := hid (Ext.new (ext_refl w) _)
  have BO := hid (Blk.new w 27 #[.int .i64 4, .string nn, .string tt, .string xx])
  show Calls _ _ #[_, .agg #[.int .i64 4, .string nn, .string tt, .string xx]] w _
  clear hn hm hq hmn hm24 hrd hb hbg o1 o2 o3 hdj hbw h24 hgd hpp hs
  go_enter Tryd.func39, Tryd.ntmps39
  go_upto_region 1 with fail
  generalize w.alloc (.cells #[.int .i64 4, .string nn, .string tt, .string xx] 27) = wz at XO BO ⊢
  have g1 := (HB.out.keep XO.out).cell 1
  have g1r := cell_regrown g1
  have p1r := cell_regrown (BO.out.cell 1)
  refine wp_region_walk [(0, true), (1, true), (2, true), (3, true), (4, true), (5, true), (6, true), (7, false), (8, true), (9, true), (10, true), (11, true), (12, true)] (by kernel_rfl) (by kernel_rfl) (fun _ _ _ _ _ h => h) (by kernel_rfl) (by rfl) ?_
  simp only [List.filterMap_cons, List.filterMap_nil, List.getElem?_toArray, List.getElem?_cons_zero, List.getElem?_cons_succ, Option.map_some]
  repeat (refine wpM_val (by rfl) ?_; intro K hK; go_big_quiet_op; go_big_quiet_on)
  refine wpM_do (by rfl) ?_
  intro K hK
  go_simp
  have Y0 : Ext wz wz.drew := (ext_refl wz).draw
  refine Calls.mono (HAT.out _ (XO.out.then Y0)) ?_
  rintro e w1 ⟨rfl, hx⟩
  have Y1 := Ext.then Y0 hx
  refine hK _ _ Y1 ?_
  clear K hK hx
  have X1 : Hid (Ext w w1) := hid (XO.out.then Y1)
  have B1 := hid (BO.out.keep Y1)
  have D1 := hid (Dsk.ext HD.out X1.out)
  have W1 := hid (Below.mono X1.out HBW.out)
  have S1 := hid (Nat.le_trans HBW.out X1.out.size)
  clear Y0 Y1 g1 g1r p1r
  repeat (refine wpM_val (by rfl) ?_; intro K hK; go_big_quiet_op; go_big_quiet_on)
  refine wpM_nil ?_
  have q0 := B1.out.cell 0
  have q1 := B1.out.cell 1
  have q2 := B1.out.cell 2
  have q3 := B1.out.cell 3
  go_wp2
  go_returns
  exact ⟨rfl, W1.out⟩
set_option maxHeartbeats 1600000 in
set_option maxRecDepth 100000 in
theorem do_k3 (f : Fs.FSy) (nn tt xx : ByteArray) (base g : Nat) (w : World) (hdk : Dsk w base g f) (hbw : base ≤ w.heap.size) (h24 : f.1.length ≤ 24) (hgd : Fs.Good f.1.length f.2.1) (hs : nn.data.toList ∈ Fs.nms f.2.1) :
    Calls Tryd.prog 39 #[.pointer (some ⟨g, 0, none⟩), Fs.opV (3, nn, tt, xx)] w fun e w' => e = .returned (.int .i64 0) ∧ Dsk w' base g (f.1, Fs.wth (Fs.wout f.2.1 nn) (tt, Fs.nof f.2.1 nn), f.2.2) ∧ Below base w w' := by
  have HD := hid hdk
  obtain ⟨A1, c1, A2, c2, A3, c3, hb, hbg, o1, o2, o3, hdj⟩ := hdk
  obtain ⟨n, hn⟩ : ∃ n, n = f.1.length := ⟨_, rfl⟩
  obtain ⟨m, hm⟩ : ∃ m, m = f.2.1.length := ⟨_, rfl⟩
  obtain ⟨q, hq⟩ : ∃ q, q = f.2.2.length := ⟨_, rfl⟩
  have hmn := Fs.good_len hgd
  rw [← hn] at hb o1 hmn
  rw [← hm] at hb o2 hmn
  rw [← hq] at hb o3
  have hm24 : m ≤ 24 := by omega
  have hrd := (own_rd o2).1
  have HAT := hid (fun wx (hx : Ext w wx) => at_any f.2.1 A2 m c2 nn wx hm.symm (hrd.keep hx) (by omega) hgd.2.1)
  rw [decide_eq_true hs] at HAT
  have HREN := hid (fun (wx : World) (d : Dsk wx base g f) (b : base ≤ wx.heap.size) => rename_any f nn tt base g wx d b h24 hgd hs)
  obtain ⟨k, hkk⟩ : ∃ p, p = Dct.plc (Fs.nms f.2.1) nn.data.toList := ⟨_, rfl⟩
  rw [← hkk] at HAT HREN
  have HN := hid hn; have HM := hid hm; have HQ := hid hq
  have HB := hid hb; have HO1 := hid o1; have HO2 := hid o2; have HO3 := hid o3; have HDJ := hid hdj
  have HBW := hid hbw; have HBG := hid hbg
  have HGD := hid hgd
  have H24 := hid h24
  have HM24 := hid hm24
  have lg : g < w.heap.size := hb.lt
  have XO : Hid (Ext w (w.alloc (.cells #[.int .i64 3, .string nn, .string tt, .string xx] 27))) := hid (Ext.new (ext_refl w) _)
  have BO := hid (Blk.new w 27 #[.int .i64 3, .string nn, .string tt, .string xx])
  show Calls _ _ #[_, .agg #[.int .i64 3, .string nn, .string tt, .string xx]] w _
  clear hn hm hq hmn hm24 hrd hb hbg o1 o2 o3 hdj hbw h24 hgd hkk hs
  go_enter Tryd.func39, Tryd.ntmps39
  go_upto_region 1 with fail
  generalize w.alloc (.cells #[.int .i64 3, .string nn, .string tt, .string xx] 27) = wz at XO BO ⊢
  have g1 := (HB.out.keep XO.out).cell 1
  have g1r := cell_regrown g1
  have p1r := cell_regrown (BO.out.cell 1)
  refine wp_region_walk [(0, true), (1, true), (2, true), (3, true), (4, true), (5, true), (6, true), (7, false), (8, true), (9, true), (10, true), (11, true), (12, true)] (by kernel_rfl) (by kernel_rfl) (fun _ _ _ _ _ h => h) (by kernel_rfl) (by rfl) ?_
  simp only [List.filterMap_cons, List.filterMap_nil, List.getElem?_toArray, List.getElem?_cons_zero, List.getElem?_cons_succ, Option.map_some]
  repeat (refine wpM_val (by rfl) ?_; intro K hK; go_big_quiet_op; go_big_quiet_on)
  refine wpM_do (by rfl) ?_
  intro K hK
  go_simp
  have Y0 : Ext wz wz.drew := (ext_refl wz).draw
  refine Calls.mono (HAT.out _ (XO.out.then Y0)) ?_
  rintro e w1 ⟨rfl, hx⟩
  have Y1 := Ext.then Y0 hx
  refine hK _ _ Y1 ?_
  clear K hK hx
  have X1 : Hid (Ext w w1) := hid (XO.out.then Y1)
  have B1 := hid (BO.out.keep Y1)
  have D1 := hid (Dsk.ext HD.out X1.out)
  have W1 := hid (Below.mono X1.out HBW.out)
  have S1 := hid (Nat.le_trans HBW.out X1.out.size)
  clear Y0 Y1 g1 g1r p1r
  repeat (refine wpM_val (by rfl) ?_; intro K hK; go_big_quiet_op; go_big_quiet_on)
  refine wpM_nil ?_
  have q0 := B1.out.cell 0
  have q1 := B1.out.cell 1
  have q2 := B1.out.cell 2
  have q3 := B1.out.cell 3
  have HW := hid (HREN.out w1 D1.out S1.out)
  go_wp2_with fail
  refine Calls.mono HW.out ?_
  rintro e w2 ⟨rfl, h1, h2⟩
  have R1 := hid h1
  have R2 := hid (W1.out.trans h2)
  clear h1 h2 q0 q1 q2 q3
  go_wp2
  go_returns
  exact ⟨rfl, R1.out, R2.out⟩
set_option maxHeartbeats 1600000 in
set_option maxRecDepth 100000 in
theorem do_k4 (f : Fs.FSy) (nn tt xx : ByteArray) (base g : Nat) (w : World) (hdk : Dsk w base g f) (hbw : base ≤ w.heap.size) (h24 : f.1.length ≤ 24) (hgd : Fs.Good f.1.length f.2.1) (hs : nn.data.toList ∈ Fs.nms f.2.1) :
    Calls Tryd.prog 39 #[.pointer (some ⟨g, 0, none⟩), Fs.opV (4, nn, tt, xx)] w fun e w' => e = .returned (.int .i64 0) ∧ Dsk w' base g (f.1, Fs.wout f.2.1 nn, f.2.2) ∧ Below base w w' := by
  have HD := hid hdk
  obtain ⟨A1, c1, A2, c2, A3, c3, hb, hbg, o1, o2, o3, hdj⟩ := hdk
  obtain ⟨n, hn⟩ : ∃ n, n = f.1.length := ⟨_, rfl⟩
  obtain ⟨m, hm⟩ : ∃ m, m = f.2.1.length := ⟨_, rfl⟩
  obtain ⟨q, hq⟩ : ∃ q, q = f.2.2.length := ⟨_, rfl⟩
  have hmn := Fs.good_len hgd
  rw [← hn] at hb o1 hmn
  rw [← hm] at hb o2 hmn
  rw [← hq] at hb o3
  have hm24 : m ≤ 24 := by omega
  have hrd := (own_rd o2).1
  have HAT := hid (fun wx (hx : Ext w wx) => at_any f.2.1 A2 m c2 nn wx hm.symm (hrd.keep hx) (by omega) hgd.2.1)
  rw [decide_eq_true hs] at HAT
  obtain ⟨hk, hke, hkn⟩ := Fs.nof_at hgd.2.1 hs
  obtain ⟨k, hkk⟩ : ∃ p, p = Dct.plc (Fs.nms f.2.1) nn.data.toList := ⟨_, rfl⟩
  have hkm : k < m := by rw [hkk, hm]; exact hk
  obtain ⟨g2, rfl⟩ := own_some o2 (by omega)
  obtain ⟨j, hj⟩ : ∃ j, j + 1 = m := ⟨m - 1, by omega⟩
  have hD1 := Fs.wout_yes hgd.2.1 hs
  rw [← hkk] at HAT hD1
  have HDEL := hid (fun (wx : World) (o : wx.ownsRow base 47 2 (.slice (some ⟨g2, 0, none⟩) m c2) m (ens f.2.1)) => deleteE_any f.2.1 (some ⟨g2, 0, none⟩) m c2 k base ((k : Int) + 1) wx rfl j hj hm.symm o hkm (by omega))
  rw [← hD1] at HDEL
  have HDL := hid (show (Fs.wout f.2.1 nn).length = j by rw [hD1, List.length_append, List.length_take, List.length_drop]; omega)
  have hkI : (k : Int) ≤ 24 := by omega
  have HN := hid hn; have HM := hid hm; have HQ := hid hq
  have HB := hid hb; have HO1 := hid o1; have HO2 := hid o2; have HO3 := hid o3; have HDJ := hid hdj
  have HBW := hid hbw; have HBG := hid hbg
  have HGD := hid hgd
  have H24 := hid h24
  have HM24 := hid hm24
  have lg : g < w.heap.size := hb.lt
  have XO : Hid (Ext w (w.alloc (.cells #[.int .i64 4, .string nn, .string tt, .string xx] 27))) := hid (Ext.new (ext_refl w) _)
  have BO := hid (Blk.new w 27 #[.int .i64 4, .string nn, .string tt, .string xx])
  show Calls _ _ #[_, .agg #[.int .i64 4, .string nn, .string tt, .string xx]] w _
  clear hn hm hq hmn hm24 hrd hb hbg o1 o2 o3 hdj hbw h24 hgd hkk hs hk hke hkn hkm hj hD1
  go_enter Tryd.func39, Tryd.ntmps39
  go_upto_region 1 with fail
  generalize w.alloc (.cells #[.int .i64 4, .string nn, .string tt, .string xx] 27) = wz at XO BO ⊢
  have g1 := (HB.out.keep XO.out).cell 1
  have g1r := cell_regrown g1
  have p1r := cell_regrown (BO.out.cell 1)
  refine wp_region_walk [(0, true), (1, true), (2, true), (3, true), (4, true), (5, true), (6, true), (7, false), (8, true), (9, true), (10, true), (11, true), (12, true)] (by kernel_rfl) (by kernel_rfl) (fun _ _ _ _ _ h => h) (by kernel_rfl) (by rfl) ?_
  simp only [List.filterMap_cons, List.filterMap_nil, List.getElem?_toArray, List.getElem?_cons_zero, List.getElem?_cons_succ, Option.map_some]
  repeat (refine wpM_val (by rfl) ?_; intro K hK; go_big_quiet_op; go_big_quiet_on)
  refine wpM_do (by rfl) ?_
  intro K hK
  go_simp
  have Y0 : Ext wz wz.drew := (ext_refl wz).draw
  refine Calls.mono (HAT.out _ (XO.out.then Y0)) ?_
  rintro e w1 ⟨rfl, hx⟩
  have Y1 := Ext.then Y0 hx
  refine hK _ _ Y1 ?_
  clear K hK hx
  have X1 : Hid (Ext w w1) := hid (XO.out.then Y1)
  have B1 := hid (BO.out.keep Y1)
  have D1 := hid (Dsk.ext HD.out X1.out)
  have W1 := hid (Below.mono X1.out HBW.out)
  have S1 := hid (Nat.le_trans HBW.out X1.out.size)
  clear Y0 Y1 g1 g1r p1r
  repeat (refine wpM_val (by rfl) ?_; intro K hK; go_big_quiet_op; go_big_quiet_on)
  refine wpM_nil ?_
  have q0 := B1.out.cell 0
  have q1 := B1.out.cell 1
  have q2 := B1.out.cell 2
  have q3 := B1.out.cell 3
  have G1 := hid (HB.out.keep X1.out)
  have O1 := hid (own_ext HO1.out X1.out)
  have O2 := hid (own_ext HO2.out X1.out)
  have O3 := hid (own_ext HO3.out X1.out)
  have g0 := G1.out.cell 0
  have g1 := G1.out.cell 1
  have g2v := G1.out.cell 2
  have hf0 := G1.out.frozen 0
  have hf1 := G1.out.frozen 1
  have hf2 := G1.out.frozen 2
  go_wp2_with fail
  refine Calls.mono (HDEL.out _ O2.out) ?_
  rintro e w2 ⟨rfl, r2, r3⟩
  have HN2g := hid (own_nblk O2.out G1.out (by decide))
  have HN3g := hid (own_nblk O3.out G1.out (by decide))
  have HN1g := hid (own_nblk O1.out G1.out (by decide))
  have HB2 := hid (own_block_rng O2.out rfl).1
  have P1 := hid (O1.out.kept r3 (own_ne O1.out O2.out (by decide)))
  have P3 := hid (O3.out.kept r3 (by
    cases A3 with
    | none => exact .inl rfl
    | some a3 => right; intro e; have e := Option.some.inj e; exact HDJ.out ⟨g2, 0, none⟩ a3 rfl rfl e.symm))
  have G2 := hid (Blk.grown G1.out r3 HN2g.out)
  have P2 := hid r2
  have W2 := hid (W1.out.grown r3 S1.out (fun j hj => (own_block_rng O2.out hj).1))
  clear r2 r3 q0 q1 q2 q3 g0 g1 g2v hf0 hf1 hf2
  have h1 := G2.out.cell 1
  have hf1 := G2.out.frozen 1
  go_wp2
  go_returns
  refine ⟨rfl, ⟨A1, c1, some ⟨g2, 0, none⟩, c2, A3, c3, ?_, HBG.out, ?_, ?_, ?_, HDJ.out⟩, Below.setCell W2.out HBG.out (p := ⟨g, 1, none⟩) _⟩
  · simp only; rw [← HN.out, HDL.out, ← HQ.out]; exact (G2.out.set 1 (.slice (some ⟨g2, 0, none⟩) j c2)).cast (by simp)
  · simp only; rw [← HN.out]; exact own_put P1.out (p := ⟨g, 1, none⟩) HN1g.out _
  · simp only; rw [HDL.out]; exact own_put P2.out (p := ⟨g, 1, none⟩) HN2g.out _
  · simp only; rw [← HQ.out]; exact own_put P3.out (p := ⟨g, 1, none⟩) HN3g.out _
set_option maxHeartbeats 1600000 in
set_option maxRecDepth 100000 in
theorem do_k2 (f : Fs.FSy) (nn tt xx : ByteArray) (base g : Nat) (w : World) (hdk : Dsk w base g f) (hbw : base ≤ w.heap.size) (h24 : f.1.length ≤ 24) (hgd : Fs.Good f.1.length f.2.1) (hs : nn.data.toList ∈ Fs.nms f.2.1) :
    Calls Tryd.prog 39 #[.pointer (some ⟨g, 0, none⟩), Fs.opV (2, nn, tt, xx)] w fun e w' => e = .returned (.int .i64 0) ∧ Dsk w' base g (Fs.synL f.1 (Fs.nof f.2.1 nn).toNat, f.2.1, f.2.2) ∧ Below base w w' := by
  have HD := hid hdk
  obtain ⟨A1, c1, A2, c2, A3, c3, hb, hbg, o1, o2, o3, hdj⟩ := hdk
  obtain ⟨n, hn⟩ : ∃ n, n = f.1.length := ⟨_, rfl⟩
  obtain ⟨m, hm⟩ : ∃ m, m = f.2.1.length := ⟨_, rfl⟩
  obtain ⟨q, hq⟩ : ∃ q, q = f.2.2.length := ⟨_, rfl⟩
  have hmn := Fs.good_len hgd
  rw [← hn] at hb o1 hmn
  rw [← hm] at hb o2 hmn
  rw [← hq] at hb o3
  have hm24 : m ≤ 24 := by omega
  have hrd := (own_rd o2).1
  have HAT := hid (fun wx (hx : Ext w wx) => at_any f.2.1 A2 m c2 nn wx hm.symm (hrd.keep hx) (by omega) hgd.2.1)
  rw [decide_eq_true hs] at HAT
  obtain ⟨hk, hke, hkn⟩ := Fs.nof_at hgd.2.1 hs
  obtain ⟨k, hkk⟩ : ∃ p, p = Dct.plc (Fs.nms f.2.1) nn.data.toList := ⟨_, rfl⟩
  have hkm : k < m := by rw [hkk, hm]; exact hk
  obtain ⟨j, hj⟩ : ∃ j : Nat, Fs.nof f.2.1 nn = (j : Int) := ⟨(Fs.nof f.2.1 nn).toNat, by have := (hgd.1 _ (List.getElem_mem hk)).2.1; omega⟩
  have hjn : j < n := by have := (hgd.1 _ (List.getElem_mem hk)).2.2; omega
  obtain ⟨g2, rfl⟩ := own_some o2 (by omega)
  obtain ⟨g1b, rfl⟩ := own_some o1 (by omega)
  obtain ⟨b3, o3', e3, l3, c3'⟩ := (own_rd o2).1.ents _ hk
  cases e3
  have d1 := (c3' _ hk).2
  rw [← hkn, hj] at d1
  obtain ⟨b4, o4', e4, l4, c4'⟩ := (own_rd o1).1.nodes j (by omega)
  cases e4
  have d2 := (c4' j (by omega)).1
  have d3 := (c4' j (by omega)).2
  obtain ⟨cur, hcur⟩ := own_block o1
  have HFZ := hid (hcur.frozen (j * 2 + 1))
  have HCUR := hid hcur
  rw [← hkk] at HAT d1
  rw [Nat.zero_add] at d1 d2 d3
  have HSY := hid (Fs.nds_synL f.1 j (by omega))
  generalize (f.1[j]'(by omega)).1 = lv at d2 HSY
  generalize (f.1[j]'(by omega)).2 = sv at d3
  have HD1 := hid d1; have HD2 := hid d2; have HD3 := hid d3
  have HSL := hid (show (Fs.synL f.1 j).length = n by rw [Fs.synL_len]; exact hn.symm)
  rw [hj, Int.toNat_natCast]
  have hjI : (j : Int) < (n : Int) := by omega
  have hkI : (k : Int) < (m : Int) := by omega
  have HN := hid hn; have HM := hid hm; have HQ := hid hq
  have HB := hid hb; have HO1 := hid o1; have HO2 := hid o2; have HO3 := hid o3; have HDJ := hid hdj
  have HBW := hid hbw; have HBG := hid hbg
  have HGD := hid hgd
  have H24 := hid h24
  have HM24 := hid hm24
  have lg : g < w.heap.size := hb.lt
  have XO : Hid (Ext w (w.alloc (.cells #[.int .i64 2, .string nn, .string tt, .string xx] 27))) := hid (Ext.new (ext_refl w) _)
  have BO := hid (Blk.new w 27 #[.int .i64 2, .string nn, .string tt, .string xx])
  show Calls _ _ #[_, .agg #[.int .i64 2, .string nn, .string tt, .string xx]] w _
  clear hn hm hq hmn hm24 hrd hb hbg o1 o2 o3 hdj hbw h24 hgd hkk hs hk hke hkn hkm hj hjn l3 l4 c3' c4' d1 d2 d3 hcur
  go_enter Tryd.func39, Tryd.ntmps39
  go_upto_region 1 with fail
  generalize w.alloc (.cells #[.int .i64 2, .string nn, .string tt, .string xx] 27) = wz at XO BO ⊢
  have g1 := (HB.out.keep XO.out).cell 1
  have g1r := cell_regrown g1
  have p1r := cell_regrown (BO.out.cell 1)
  refine wp_region_walk [(0, true), (1, true), (2, true), (3, true), (4, true), (5, true), (6, true), (7, false), (8, true), (9, true), (10, true), (11, true), (12, true)] (by kernel_rfl) (by kernel_rfl) (fun _ _ _ _ _ h => h) (by kernel_rfl) (by rfl) ?_
  simp only [List.filterMap_cons, List.filterMap_nil, List.getElem?_toArray, List.getElem?_cons_zero, List.getElem?_cons_succ, Option.map_some]
  repeat (refine wpM_val (by rfl) ?_; intro K hK; go_big_quiet_op; go_big_quiet_on)
  refine wpM_do (by rfl) ?_
  intro K hK
  go_simp
  have Y0 : Ext wz wz.drew := (ext_refl wz).draw
  refine Calls.mono (HAT.out _ (XO.out.then Y0)) ?_
  rintro e w1 ⟨rfl, hx⟩
  have Y1 := Ext.then Y0 hx
  refine hK _ _ Y1 ?_
  clear K hK hx
  have X1 : Hid (Ext w w1) := hid (XO.out.then Y1)
  have B1 := hid (BO.out.keep Y1)
  have D1 := hid (Dsk.ext HD.out X1.out)
  have W1 := hid (Below.mono X1.out HBW.out)
  have S1 := hid (Nat.le_trans HBW.out X1.out.size)
  clear Y0 Y1 g1 g1r p1r
  repeat (refine wpM_val (by rfl) ?_; intro K hK; go_big_quiet_op; go_big_quiet_on)
  refine wpM_nil ?_
  have q0 := B1.out.cell 0
  have q1 := B1.out.cell 1
  have q2 := B1.out.cell 2
  have q3 := B1.out.cell 3
  have G1 := hid (HB.out.keep X1.out)
  have O1 := hid (own_ext HO1.out X1.out)
  have O2 := hid (own_ext HO2.out X1.out)
  have O3 := hid (own_ext HO3.out X1.out)
  have g0 := G1.out.cell 0
  have g1 := G1.out.cell 1
  have g2v := G1.out.cell 2
  have hf0 := G1.out.frozen 0
  have hf1 := G1.out.frozen 1
  have hf2 := G1.out.frozen 2
  have d1 := ext_cell X1.out HD1.out
  have d2 := ext_cell X1.out HD2.out
  have d3 := ext_cell X1.out HD3.out
  have hfz := (HCUR.out.keep X1.out).frozen (j * 2 + 1)
  have g0r := cell_regrown g0
  have g1r := cell_regrown g1
  have d1r := cell_regrown d1
  go_wp2_with fail
  go_quiet (fail)
  go_wp2
  go_returns
  have HNg := hid (show g ≠ g1b from fun e => own_nblk O1.out G1.out (by decide) (by rw [e]; rfl))
  have HB1 := hid (own_block_rng O1.out rfl).1
  have HN2 := hid (show Value.ownBlock (.slice (some ⟨g2, 0, none⟩) m c2) ≠ some g1b from by
    rcases own_ne O2.out O1.out (by decide) with h | h
    · cases h
    · exact h)
  have HN3 := hid (show Value.ownBlock (.slice A3 q c3) ≠ some g1b from by
    rcases own_ne O3.out O1.out (by decide) with h | h
    · rw [h]; intro e; cases e
    · exact h)
  have XN : Ext w1 (w1.drewN nq) := (ext_refl w1).draws nq
  refine ⟨rfl, ⟨some ⟨g1b, 0, none⟩, c1, some ⟨g2, 0, none⟩, c2, A3, c3, ?_, HBG.out, ?_, ?_, ?_, HDJ.out⟩, Below.setCell (Below.trans W1.out (Below.mono XN S1.out)) HB1.out (p := ⟨g1b, j * 2 + 1, none⟩) _⟩
  · simp only; rw [HSL.out, ← HM.out, ← HQ.out]; exact (G1.out.keep XN).far (p := ⟨g1b, j * 2 + 1, none⟩) HNg.out _
  · simp only; rw [HSL.out, ← HSY.out]; exact own_set (own_ext O1.out XN) rfl _ _
  · simp only; rw [← HM.out]; exact own_put (own_ext O2.out XN) (p := ⟨g1b, j * 2 + 1, none⟩) HN2.out _
  · simp only; rw [← HQ.out]; exact own_put (own_ext O3.out XN) (p := ⟨g1b, j * 2 + 1, none⟩) HN3.out _
end Go.Proofs.YtolhifnlahllnaaDoor
