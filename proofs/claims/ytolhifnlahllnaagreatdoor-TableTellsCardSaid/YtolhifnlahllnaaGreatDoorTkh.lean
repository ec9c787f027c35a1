/- Tables: found, with each of its closures: walks (printed by gen_tkg.py). Tables: the closures of Drop and Rename: walks. Tables: Redact's closure: walk. Tables: Project's closure: walk. -/
import Derived.Test.YtolhifnlahllnaaGreatDoorTka
import Derived.Test.YtolhifnlahllnaaGreatDoorGhx
import Derived.Test.YtolhifnlahllnaaGreatDoorGen
import Derived.Test.YtolhifnlahllnaaGreatDoorShelf
section
namespace Go.Proofs.YtolhifnlahllnaaGreatDoor
open Go.RowKit Hy
set_option maxHeartbeats 3200000 in
set_option maxRecDepth 100000 in
theorem foundC_drop (t t' : Tb.Tab) (s : ByteArray) (E : Nat) (base g h1 h2 : Nat) (wx : World) (ht : TbO wx base g t) (hbw : base ≤ wx.heap.size) (hR : Tb.Right t) (hs : wx.cell? ⟨h1, 0, none⟩ = some (.string s)) (hd : wx.cell? ⟨h2, 0, none⟩ = some (.func (.func 64) #[] #[]))
    (HF : s ∈ t.1.map (·.1) → ∀ wy, Ext wx wy → Calls Tryz.prog 64 #[.pointer (some ⟨g, 0, none⟩), .int .i64 (Tb.at0 t s : Nat)] wy fun e w' => e = .returned (.int .i64 (E : Nat)) ∧ (E = 0 → TbG w' base g t') ∧ Chg base g wy w') :
    Calls Tryz.prog 76 #[.pointer (some ⟨g, 0, none⟩), .pointer (some ⟨h1, 0, none⟩), .pointer (some ⟨h2, 0, none⟩)] wx fun e w' => e = .returned (.int .i64 ((if Tb.ixc t.1 s 0 < 0 then 5 else E : Nat) : Int)) ∧ ((if Tb.ixc t.1 s 0 < 0 then 5 else E) = 0 → TbG w' base g t') ∧ Chg base g wx w' := by
  obtain ⟨A, c, B, d, L, hg, hgb, o1, o2, hL, hok, hpw⟩ := ht.parts
  obtain ⟨n, hn⟩ : ∃ n, n = t.1.length := ⟨_, rfl⟩
  obtain ⟨m, hm⟩ : ∃ n, n = t.2.length := ⟨_, rfl⟩
  have h6 := hR.six
  rw [← hn] at hg o1
  rw [← hm] at hg
  have HAT := hid (fun wy (hx : Ext wx wy) => tat_any t.1 s A n c wy hn.symm ((own_rd o1).1.keep hx) (by omega))
  have HG := hid hg
  have HBW := hid hbw
  have a0 := hs
  have a1 := hg.cell 0
  have a0r := cell_regrown a0
  have a1r := cell_regrown a1
  have HD := hid hd
  by_cases hix : Tb.ixc t.1 s 0 < 0
  · rw [if_pos hix]
    obtain ⟨x, hx⟩ : ∃ x, x = Tb.ixc t.1 s 0 := ⟨_, rfl⟩
    rw [← hx] at HAT hix
    clear ht hR hs hg hgb hbw o1 o2 hL hok hpw hn hm h6 hx HF hd
    go_enter Tryz.func76, Tryz.ntmps76
    go_upto_region 1 with fail
    refine wp_region_walk [(0, true), (1, true), (2, true), (3, true), (4, true), (5, false), (6, true)] (by kernel_rfl) (by kernel_rfl) (fun _ _ _ _ _ h => h) (by kernel_rfl) (by rfl) ?_
    simp only [List.filterMap_cons, List.filterMap_nil, List.getElem?_toArray, List.getElem?_cons_zero, List.getElem?_cons_succ, Option.map_some]
    repeat (refine wpM_val (by rfl) ?_; intro K hK; go_big_quiet_op; go_big_quiet_on)
    have Y0 : Ext wx wx.drew := (ext_refl wx).draw
    refine wpM_do (by rfl) ?_
    intro K hK
    go_simp
    refine Calls.mono (HAT.out _ Y0) ?_
    rintro e y1 ⟨rfl, hx⟩
    have Y1 := Ext.then Y0 hx
    refine hK _ _ Y1 ?_
    have X1 := hid Y1
    clear K hK hx Y0 Y1 a0r a1r a0 a1
    repeat (refine wpM_val (by rfl) ?_; intro K hK; go_big_quiet_op; go_big_quiet_on)
    refine wpM_nil ?_
    go_wp2
    go_returns
    exact ⟨rfl, fun h => absurd h (by decide), (Chg.refl base g wx).ext HBW.out X1.out⟩
  · rw [if_neg hix]
    have hmem : s ∈ t.1.map (·.1) := Classical.byContradiction fun h => hix ((Tb.ixc_neg _ _ _).2 h)
    obtain ⟨_, _, hat⟩ := Tb.at_name hR hmem
    have HFF := hid (HF hmem)
    rw [hat] at HAT
    obtain ⟨k, hk⟩ : ∃ k, k = Tb.at0 t s := ⟨_, rfl⟩
    rw [← hk] at HAT HFF
    have hkI : (0 : Int) ≤ (k : Int) := by omega
    clear ht hR hs hg hgb hbw o1 o2 hL hok hpw hn hm h6 hk hix hmem hat HF hd
    go_enter Tryz.func76, Tryz.ntmps76
    go_upto_region 1 with fail
    refine wp_region_walk [(0, true), (1, true), (2, true), (3, true), (4, true), (5, false), (6, true)] (by kernel_rfl) (by kernel_rfl) (fun _ _ _ _ _ h => h) (by kernel_rfl) (by rfl) ?_
    simp only [List.filterMap_cons, List.filterMap_nil, List.getElem?_toArray, List.getElem?_cons_zero, List.getElem?_cons_succ, Option.map_some]
    repeat (refine wpM_val (by rfl) ?_; intro K hK; go_big_quiet_op; go_big_quiet_on)
    have Y0 : Ext wx wx.drew := (ext_refl wx).draw
    refine wpM_do (by rfl) ?_
    intro K hK
    go_simp
    refine Calls.mono (HAT.out _ Y0) ?_
    rintro e y1 ⟨rfl, hx⟩
    have Y1 := Ext.then Y0 hx
    refine hK _ _ Y1 ?_
    have X1 := hid Y1
    clear K hK hx Y0 Y1 a0r a1r a0 a1
    repeat (refine wpM_val (by rfl) ?_; intro K hK; go_big_quiet_op; go_big_quiet_on)
    refine wpM_nil ?_
    have d0 := ext_cell X1.out HD.out
    go_wp2_with fail
    refine Calls.mono (HFF.out _ X1.out) ?_
    rintro e w2 ⟨rfl, hg, hx⟩
    have HG2 := hid hg
    have HC := hid hx
    clear hg hx d0
    go_wp2
    go_returns
    refine ⟨rfl, HG2.out, ?_⟩
    have CH := (Chg.refl base g wx).ext HBW.out X1.out
    exact ⟨HC.out.os.trans CH.os, HC.out.tape.trans CH.tape, HC.out.output.trans CH.output, Nat.le_trans CH.size HC.out.size, fun i hi hn => (HC.out.block i hi hn).trans (CH.block i hi hn)⟩
set_option maxHeartbeats 3200000 in
set_option maxRecDepth 100000 in
theorem found_drop (t : Tb.Tab) (t' : Tb.Tab) (s : ByteArray) (E : Nat) (v : Value) (w : World) (hv : TbV w v t) (hb : TbB t) (HF : s ∈ t.1.map (·.1) → Tb.Right t → ∀ base g wy, Ext w wy → w.heap.size ≤ g → g < base → base ≤ wy.heap.size → TbO wy base g t → Calls Tryz.prog 64 #[.pointer (some ⟨g, 0, none⟩), .int .i64 (Tb.at0 t s : Nat)] wy fun e w' => e = .returned (.int .i64 (E : Nat)) ∧ (E = 0 → TbG w' base g t') ∧ Chg base g wy w') :
    Calls Tryz.prog 34 #[v, .string s, .func (.func 64) #[] #[]] w fun e w' => ∃ v', e = .returned (.tuple #[v', .int .i64 ((if Tb.tbck t ≠ 0 then Tb.tbck t else if Tb.ixc t.1 s 0 < 0 then 5 else E : Nat) : Int)]) ∧ TbL w' w.heap.size v' (Tb.res (if Tb.tbck t ≠ 0 then Tb.tbck t else if Tb.ixc t.1 s 0 < 0 then 5 else E) (t')) ∧ Ext w w' := by
  have HV := hid hv
  have HB := hid hb
  obtain ⟨A, n, c, B, m, d, rfl⟩ := hv.shape
  obtain ⟨R, hR⟩ : ∃ R, R = if Tb.tbck t ≠ 0 then Tb.tbck t else if Tb.ixc t.1 s 0 < 0 then 5 else E := ⟨_, rfl⟩
  rw [← hR]
  have HR := hid hR
  have HCALL := hid (fun wz (XZ : Ext w wz) (BX1 : Blk wz (w.heap.size + 1) 9 #[.string s]) (BX2 : Blk wz (w.heap.size + 1 + 1) 68 #[.func (.func 64) #[] #[]]) => changed_found t t' (if Tb.ixc t.1 s 0 < 0 then 5 else E) (w.heap.size + 1) (w.heap.size + 1 + 1) _ wz (hv.keep XZ) hb right_len (fun h0 base g wx hx hg hgb hbw ht => foundC_drop t t' s E base g (w.heap.size + 1) (w.heap.size + 1 + 1) wx ht hbw ((Tb.right_iff t).1 h0) (ext_cell hx (BX1.cell 0)) (ext_cell hx (BX2.cell 0)) (fun hm wy hy => HF hm ((Tb.right_iff t).1 h0) base g wy ((XZ.then hx).then hy) (Nat.le_trans XZ.size hg) hgb (Nat.le_trans hbw hy.size) (ht.ext hy))))
  rw [show (if Tb.tbck t ≠ 0 then Tb.tbck t else if Tb.ixc t.1 s 0 < 0 then 5 else E) = R by rw [hR]] at HCALL
  obtain ⟨TT, hTT⟩ : ∃ TT, TT = t' := ⟨_, rfl⟩
  rw [← hTT] at HCALL ⊢
  clear hv hb hR hTT HF
  go_enter Tryz.func34, Tryz.ntmps34
  go_upto_region 1 with fail
  refine wp_gen (fun w' => Ext w w' ∧ Blk w' (w.heap.size) 25 #[.slice A n c, .slice B m d] ∧ Blk w' (w.heap.size + 1) 9 #[.string s] ∧ Blk w' (w.heap.size + 1 + 1) 68 #[.func (.func 64) #[] #[]] ∧ Blk w' (w.heap.size + 1 + 1 + 1) 25 #[.slice none 0 0, .slice none 0 0]) ⟨(((((ext_refl _).new _).new _).new _).new _), ((((blk_at _ _ (by simp)).alloc _).alloc _).alloc _), (((blk_at _ _ (by simp)).alloc _).alloc _), ((blk_at _ _ (by simp)).alloc _), (blk_at _ _ (by simp))⟩ ?_
  rintro wz ⟨XZ0, B0, B1, B2, B3⟩
  have XZ : Hid (Ext w wz) := hid XZ0
  have p0 := B0.cell 0
  have p1 := B0.cell 1
  have HRB := hid B3
  have HL2 := hid HRB.out.lt
  have HX1 := hid B1
  have HX2 := hid B2
  clear XZ0 B0 B1 B2 B3
  go_wp2_with fail
  refine Calls.mono (HCALL.out _ XZ.out HX1.out HX2.out) ?_
  rintro e w1 ⟨v', rfl, hl, hx⟩
  obtain ⟨A5, n5, c5, D5, m5, d5, rfl⟩ := hl.V.shape
  have HL := hid hl
  have X1 := hid (XZ.out.then hx)
  have R4 := hid (HRB.out.keep hx)
  clear p0 p1 hl hx
  have q0 := R4.out.cell 0
  have q1 := R4.out.cell 1
  have f0 := R4.out.frozen 0
  have f1 := R4.out.frozen 1
  go_wp2
  have HBF := hid (((R4.out.set 0 (.slice A5 n5 c5)).set 1 (.slice D5 m5 d5)).cast (cs' := #[.slice A5 n5 c5, .slice D5 m5 d5]) (by simp))
  have XF := hid (Ext.put (Ext.put X1.out (p := ⟨w.heap.size + 1 + 1 + 1, 0, none⟩) (by simp only; omega) (.slice A5 n5 c5)) (p := ⟨w.heap.size + 1 + 1 + 1, 1, none⟩) (by simp only; omega) (.slice D5 m5 d5))
  refine bodyPost_ret (results_blk2 rfl _ _ (w.heap.size + 1 + 1 + 1) 25 _ _ rfl HBF.out Tryz.underlying25 rfl (by kernel_rfl)) rfl ?_
  exact ⟨_, rfl, ((HL.out.put (p := ⟨w.heap.size + 1 + 1 + 1, 0, none⟩) HL2.out _).put (p := ⟨w.heap.size + 1 + 1 + 1, 1, none⟩) HL2.out _).low XZ.out.size, XF.out⟩
set_option maxHeartbeats 3200000 in
set_option maxRecDepth 100000 in
theorem foundC_ren (t t' : Tb.Tab) (s : ByteArray) (E : Nat) (base g h1 h2 h3 : Nat) (wx : World) (ht : TbO wx base g t) (hbw : base ≤ wx.heap.size) (hR : Tb.Right t) (hs : wx.cell? ⟨h1, 0, none⟩ = some (.string s)) (hd : wx.cell? ⟨h2, 0, none⟩ = some (.func (.func 67) #[] #[.pointer (some ⟨h3, 0, none⟩)]))
    (HF : s ∈ t.1.map (·.1) → ∀ wy, Ext wx wy → Calls Tryz.prog 67 #[.pointer (some ⟨g, 0, none⟩), .int .i64 (Tb.at0 t s : Nat), .pointer (some ⟨h3, 0, none⟩)] wy fun e w' => e = .returned (.int .i64 (E : Nat)) ∧ (E = 0 → TbG w' base g t') ∧ Chg base g wy w') :
    Calls Tryz.prog 76 #[.pointer (some ⟨g, 0, none⟩), .pointer (some ⟨h1, 0, none⟩), .pointer (some ⟨h2, 0, none⟩)] wx fun e w' => e = .returned (.int .i64 ((if Tb.ixc t.1 s 0 < 0 then 5 else E : Nat) : Int)) ∧ ((if Tb.ixc t.1 s 0 < 0 then 5 else E) = 0 → TbG w' base g t') ∧ Chg base g wx w' := by
  obtain ⟨A, c, B, d, L, hg, hgb, o1, o2, hL, hok, hpw⟩ := ht.parts
  obtain ⟨n, hn⟩ : ∃ n, n = t.1.length := ⟨_, rfl⟩
  obtain ⟨m, hm⟩ : ∃ n, n = t.2.length := ⟨_, rfl⟩
  have h6 := hR.six
  rw [← hn] at hg o1
  rw [← hm] at hg
  have HAT := hid (fun wy (hx : Ext wx wy) => tat_any t.1 s A n c wy hn.symm ((own_rd o1).1.keep hx) (by omega))
  have HG := hid hg
  have HBW := hid hbw
  have a0 := hs
  have a1 := hg.cell 0
  have a0r := cell_regrown a0
  have a1r := cell_regrown a1
  have HD := hid hd
  by_cases hix : Tb.ixc t.1 s 0 < 0
  · rw [if_pos hix]
    obtain ⟨x, hx⟩ : ∃ x, x = Tb.ixc t.1 s 0 := ⟨_, rfl⟩
    rw [← hx] at HAT hix
    clear ht hR hs hg hgb hbw o1 o2 hL hok hpw hn hm h6 hx HF hd
    go_enter Tryz.func76, Tryz.ntmps76
    go_upto_region 1 with fail
    refine wp_region_walk [(0, true), (1, true), (2, true), (3, true), (4, true), (5, false), (6, true)] (by kernel_rfl) (by kernel_rfl) (fun _ _ _ _ _ h => h) (by kernel_rfl) (by rfl) ?_
    simp only [List.filterMap_cons, List.filterMap_nil, List.getElem?_toArray, List.getElem?_cons_zero, List.getElem?_cons_succ, Option.map_some]
    repeat (refine wpM_val (by rfl) ?_; intro K hK; go_big_quiet_op; go_big_quiet_on)
    have Y0 : Ext wx wx.drew := (ext_refl wx).draw
    refine wpM_do (by rfl) ?_
    intro K hK
    go_simp
    refine Calls.mono (HAT.out _ Y0) ?_
    rintro e y1 ⟨rfl, hx⟩
    have Y1 := Ext.then Y0 hx
    refine hK _ _ Y1 ?_
    have X1 := hid Y1
    clear K hK hx Y0 Y1 a0r a1r a0 a1
    repeat (refine wpM_val (by rfl) ?_; intro K hK; go_big_quiet_op; go_big_quiet_on)
    refine wpM_nil ?_
    go_wp2
    go_returns
    exact ⟨rfl, fun h => absurd h (by decide), (Chg.refl base g wx).ext HBW.out X1.out⟩
  · rw [if_neg hix]
    have hmem : s ∈ t.1.map (·.1) := Classical.byContradiction fun h => hix ((Tb.ixc_neg _ _ _).2 h)
    obtain ⟨_, _, hat⟩ := Tb.at_name hR hmem
    have HFF := hid (HF hmem)
    rw [hat] at HAT
    obtain ⟨k, hk⟩ : ∃ k, k = Tb.at0 t s := ⟨_, rfl⟩
    rw [← hk] at HAT HFF
    have hkI : (0 : Int) ≤ (k : Int) := by omega
    clear ht hR hs hg hgb hbw o1 o2 hL hok hpw hn hm h6 hk hix hmem hat HF hd
    go_enter Tryz.func76, Tryz.ntmps76
    go_upto_region 1 with fail
    refine wp_region_walk [(0, true), (1, true), (2, true), (3, true), (4, true), (5, false), (6, true)] (by kernel_rfl) (by kernel_rfl) (fun _ _ _ _ _ h => h) (by kernel_rfl) (by rfl) ?_
    simp only [List.filterMap_cons, List.filterMap_nil, List.getElem?_toArray, List.getElem?_cons_zero, List.getElem?_cons_succ, Option.map_some]
    repeat (refine wpM_val (by rfl) ?_; intro K hK; go_big_quiet_op; go_big_quiet_on)
    have Y0 : Ext wx wx.drew := (ext_refl wx).draw
    refine wpM_do (by rfl) ?_
    intro K hK
    go_simp
    refine Calls.mono (HAT.out _ Y0) ?_
    rintro e y1 ⟨rfl, hx⟩
    have Y1 := Ext.then Y0 hx
    refine hK _ _ Y1 ?_
    have X1 := hid Y1
    clear K hK hx Y0 Y1 a0r a1r a0 a1
    repeat (refine wpM_val (by rfl) ?_; intro K hK; go_big_quiet_op; go_big_quiet_on)
    refine wpM_nil ?_
    have d0 := ext_cell X1.out HD.out
    go_wp2_with fail
    refine Calls.mono (HFF.out _ X1.out) ?_
    rintro e w2 ⟨rfl, hg, hx⟩
    have HG2 := hid hg
    have HC := hid hx
    clear hg hx d0
    go_wp2
    go_returns
    refine ⟨rfl, HG2.out, ?_⟩
    have CH := (Chg.refl base g wx).ext HBW.out X1.out
    exact ⟨HC.out.os.trans CH.os, HC.out.tape.trans CH.tape, HC.out.output.trans CH.output, Nat.le_trans CH.size HC.out.size, fun i hi hn => (HC.out.block i hi hn).trans (CH.block i hi hn)⟩
set_option maxHeartbeats 3200000 in
set_option maxRecDepth 100000 in
theorem found_ren (t : Tb.Tab) (t' : Tb.Tab) (s : ByteArray) (E : Nat) (h3 : Nat) (v : Value) (w : World) (hv : TbV w v t) (hb : TbB t) (HF : s ∈ t.1.map (·.1) → Tb.Right t → ∀ base g wy, Ext w wy → w.heap.size ≤ g → g < base → base ≤ wy.heap.size → TbO wy base g t → Calls Tryz.prog 67 #[.pointer (some ⟨g, 0, none⟩), .int .i64 (Tb.at0 t s : Nat), .pointer (some ⟨h3, 0, none⟩)] wy fun e w' => e = .returned (.int .i64 (E : Nat)) ∧ (E = 0 → TbG w' base g t') ∧ Chg base g wy w') :
    Calls Tryz.prog 34 #[v, .string s, .func (.func 67) #[] #[.pointer (some ⟨h3, 0, none⟩)]] w fun e w' => ∃ v', e = .returned (.tuple #[v', .int .i64 ((if Tb.tbck t ≠ 0 then Tb.tbck t else if Tb.ixc t.1 s 0 < 0 then 5 else E : Nat) : Int)]) ∧ TbL w' w.heap.size v' (Tb.res (if Tb.tbck t ≠ 0 then Tb.tbck t else if Tb.ixc t.1 s 0 < 0 then 5 else E) (t')) ∧ Ext w w' := by
  have HV := hid hv
  have HB := hid hb
  obtain ⟨A, n, c, B, m, d, rfl⟩ := hv.shape
  obtain ⟨R, hR⟩ : ∃ R, R = if Tb.tbck t ≠ 0 then Tb.tbck t else if Tb.ixc t.1 s 0 < 0 then 5 else E := ⟨_, rfl⟩
  rw [← hR]
  have HR := hid hR
  have HCALL := hid (fun wz (XZ : Ext w wz) (BX1 : Blk wz (w.heap.size + 1) 9 #[.string s]) (BX2 : Blk wz (w.heap.size + 1 + 1) 68 #[.func (.func 67) #[] #[.pointer (some ⟨h3, 0, none⟩)]]) => changed_found t t' (if Tb.ixc t.1 s 0 < 0 then 5 else E) (w.heap.size + 1) (w.heap.size + 1 + 1) _ wz (hv.keep XZ) hb right_len (fun h0 base g wx hx hg hgb hbw ht => foundC_ren t t' s E base g (w.heap.size + 1) (w.heap.size + 1 + 1) h3 wx ht hbw ((Tb.right_iff t).1 h0) (ext_cell hx (BX1.cell 0)) (ext_cell hx (BX2.cell 0)) (fun hm wy hy => HF hm ((Tb.right_iff t).1 h0) base g wy ((XZ.then hx).then hy) (Nat.le_trans XZ.size hg) hgb (Nat.le_trans hbw hy.size) (ht.ext hy))))
  rw [show (if Tb.tbck t ≠ 0 then Tb.tbck t else if Tb.ixc t.1 s 0 < 0 then 5 else E) = R by rw [hR]] at HCALL
  obtain ⟨TT, hTT⟩ : ∃ TT, TT = t' := ⟨_, rfl⟩
  rw [← hTT] at HCALL ⊢
  clear hv hb hR hTT HF
  go_enter Tryz.func34, Tryz.ntmps34
  go_upto_region 1 with fail
  refine wp_gen (fun w' => Ext w w' ∧ Blk w' (w.heap.size) 25 #[.slice A n c, .slice B m d] ∧ Blk w' (w.heap.size + 1) 9 #[.string s] ∧ Blk w' (w.heap.size + 1 + 1) 68 #[.func (.func 67) #[] #[.pointer (some ⟨h3, 0, none⟩)]] ∧ Blk w' (w.heap.size + 1 + 1 + 1) 25 #[.slice none 0 0, .slice none 0 0]) ⟨(((((ext_refl _).new _).new _).new _).new _), ((((blk_at _ _ (by simp)).alloc _).alloc _).alloc _), (((blk_at _ _ (by simp)).alloc _).alloc _), ((blk_at _ _ (by simp)).alloc _), (blk_at _ _ (by simp))⟩ ?_
  rintro wz ⟨XZ0, B0, B1, B2, B3⟩
  have XZ : Hid (Ext w wz) := hid XZ0
  have p0 := B0.cell 0
  have p1 := B0.cell 1
  have HRB := hid B3
  have HL2 := hid HRB.out.lt
  have HX1 := hid B1
  have HX2 := hid B2
  clear XZ0 B0 B1 B2 B3
  go_wp2_with fail
  refine Calls.mono (HCALL.out _ XZ.out HX1.out HX2.out) ?_
  rintro e w1 ⟨v', rfl, hl, hx⟩
  obtain ⟨A5, n5, c5, D5, m5, d5, rfl⟩ := hl.V.shape
  have HL := hid hl
  have X1 := hid (XZ.out.then hx)
  have R4 := hid (HRB.out.keep hx)
  clear p0 p1 hl hx
  have q0 := R4.out.cell 0
  have q1 := R4.out.cell 1
  have f0 := R4.out.frozen 0
  have f1 := R4.out.frozen 1
  go_wp2
  have HBF := hid (((R4.out.set 0 (.slice A5 n5 c5)).set 1 (.slice D5 m5 d5)).cast (cs' := #[.slice A5 n5 c5, .slice D5 m5 d5]) (by simp))
  have XF := hid (Ext.put (Ext.put X1.out (p := ⟨w.heap.size + 1 + 1 + 1, 0, none⟩) (by simp only; omega) (.slice A5 n5 c5)) (p := ⟨w.heap.size + 1 + 1 + 1, 1, none⟩) (by simp only; omega) (.slice D5 m5 d5))
  refine bodyPost_ret (results_blk2 rfl _ _ (w.heap.size + 1 + 1 + 1) 25 _ _ rfl HBF.out Tryz.underlying25 rfl (by kernel_rfl)) rfl ?_
  exact ⟨_, rfl, ((HL.out.put (p := ⟨w.heap.size + 1 + 1 + 1, 0, none⟩) HL2.out _).put (p := ⟨w.heap.size + 1 + 1 + 1, 1, none⟩) HL2.out _).low XZ.out.size, XF.out⟩
set_option maxHeartbeats 3200000 in
set_option maxRecDepth 100000 in
theorem foundC_red (t t' : Tb.Tab) (s : ByteArray) (E : Nat) (base g h1 h2 h3 : Nat) (wx : World) (ht : TbO wx base g t) (hbw : base ≤ wx.heap.size) (hR : Tb.Right t) (hs : wx.cell? ⟨h1, 0, none⟩ = some (.string s)) (hd : wx.cell? ⟨h2, 0, none⟩ = some (.func (.func 35) #[] #[.pointer (some ⟨h3, 0, none⟩)]))
    (HF : s ∈ t.1.map (·.1) → ∀ wy, Ext wx wy → Calls Tryz.prog 35 #[.pointer (some ⟨g, 0, none⟩), .int .i64 (Tb.at0 t s : Nat), .pointer (some ⟨h3, 0, none⟩)] wy fun e w' => e = .returned (.int .i64 (E : Nat)) ∧ (E = 0 → TbG w' base g t') ∧ Chg base g wy w') :
    Calls Tryz.prog 76 #[.pointer (some ⟨g, 0, none⟩), .pointer (some ⟨h1, 0, none⟩), .pointer (some ⟨h2, 0, none⟩)] wx fun e w' => e = .returned (.int .i64 ((if Tb.ixc t.1 s 0 < 0 then 5 else E : Nat) : Int)) ∧ ((if Tb.ixc t.1 s 0 < 0 then 5 else E) = 0 → TbG w' base g t') ∧ Chg base g wx w' := by
  obtain ⟨A, c, B, d, L, hg, hgb, o1, o2, hL, hok, hpw⟩ := ht.parts
  obtain ⟨n, hn⟩ : ∃ n, n = t.1.length := ⟨_, rfl⟩
  obtain ⟨m, hm⟩ : ∃ n, n = t.2.length := ⟨_, rfl⟩
  have h6 := hR.six
  rw [← hn] at hg o1
  rw [← hm] at hg
  have HAT := hid (fun wy (hx : Ext wx wy) => tat_any t.1 s A n c wy hn.symm ((own_rd o1).1.keep hx) (by omega))
  have HG := hid hg
  have HBW := hid hbw
  have a0 := hs
  have a1 := hg.cell 0
  have a0r := cell_regrown a0
  have a1r := cell_regrown a1
  have HD := hid hd
  by_cases hix : Tb.ixc t.1 s 0 < 0
  · rw [if_pos hix]
    obtain ⟨x, hx⟩ : ∃ x, x = Tb.ixc t.1 s 0 := ⟨_, rfl⟩
    rw [← hx] at HAT hix
    clear ht hR hs hg hgb hbw o1 o2 hL hok hpw hn hm h6 hx HF hd
    go_enter Tryz.func76, Tryz.ntmps76
    go_upto_region 1 with fail
    refine wp_region_walk [(0, true), (1, true), (2, true), (3, true), (4, true), (5, false), (6, true)] (by kernel_rfl) (by kernel_rfl) (fun _ _ _ _ _ h => h) (by kernel_rfl) (by rfl) ?_
    simp only [List.filterMap_cons, List.filterMap_nil, List.getElem?_toArray, List.getElem?_cons_zero, List.getElem?_cons_succ, Option.map_some]
    repeat (refine wpM_val (by rfl) ?_; intro K hK; go_big_quiet_op; go_big_quiet_on)
    have Y0 : Ext wx wx.drew := (ext_refl wx).draw
    refine wpM_do (by rfl) ?_
    intro K hK
    go_simp
    refine Calls.mono (HAT.out _ Y0) ?_
    rintro e y1 ⟨rfl, hx⟩
    have Y1 := Ext.then Y0 hx
    refine hK _ _ Y1 ?_
    have X1 := hid Y1
    clear K hK hx Y0 Y1 a0r a1r a0 a1
    repeat (refine wpM_val (by rfl) ?_; intro K hK; go_big_quiet_op; go_big_quiet_on)
    refine wpM_nil ?_
    go_wp2
    go_returns
    exact ⟨rfl, fun h => absurd h (by decide), (Chg.refl base g wx).ext HBW.out X1.out⟩
  · rw [if_neg hix]
    have hmem : s ∈ t.1.map (·.1) := Classical.byContradiction fun h => hix ((Tb.ixc_neg _ _ _).2 h)
    obtain ⟨_, _, hat⟩ := Tb.at_name hR hmem
    have HFF := hid (HF hmem)
    rw [hat] at HAT
    obtain ⟨k, hk⟩ : ∃ k, k = Tb.at0 t s := ⟨_, rfl⟩
    rw [← hk] at HAT HFF
    have hkI : (0 : Int) ≤ (k : Int) := by omega
    clear ht hR hs hg hgb hbw o1 o2 hL hok hpw hn hm h6 hk hix hmem hat HF hd
    go_enter Tryz.func76, Tryz.ntmps76
    go_upto_region 1 with fail
    refine wp_region_walk [(0, true), (1, true), (2, true), (3, true), (4, true), (5, false), (6, true)] (by kernel_rfl) (by kernel_rfl) (fun _ _ _ _ _ h => h) (by kernel_rfl) (by rfl) ?_
    simp only [List.filterMap_cons, List.filterMap_nil, List.getElem?_toArray, List.getElem?_cons_zero, List.getElem?_cons_succ, Option.map_some]
    repeat (refine wpM_val (by rfl) ?_; intro K hK; go_big_quiet_op; go_big_quiet_on)
    have Y0 : Ext wx wx.drew := (ext_refl wx).draw
    refine wpM_do (by rfl) ?_
    intro K hK
    go_simp
    refine Calls.mono (HAT.out _ Y0) ?_
    rintro e y1 ⟨rfl, hx⟩
    have Y1 := Ext.then Y0 hx
    refine hK _ _ Y1 ?_
    have X1 := hid Y1
    clear K hK hx Y0 Y1 a0r a1r a0 a1
    repeat (refine wpM_val (by rfl) ?_; intro K hK; go_big_quiet_op; go_big_quiet_on)
    refine wpM_nil ?_
    have d0 := ext_cell X1.out HD.out
    go_wp2_with fail
    refine Calls.mono (HFF.out _ X1.out) ?_
    rintro e w2 ⟨rfl, hg, hx⟩
    have HG2 := hid hg
    have HC := hid hx
    clear hg hx d0
    go_wp2
    go_returns
    refine ⟨rfl, HG2.out, ?_⟩
    have CH := (Chg.refl base g wx).ext HBW.out X1.out
    exact ⟨HC.out.os.trans CH.os, HC.out.tape.trans CH.tape, HC.out.output.trans CH.output, Nat.le_trans CH.size HC.out.size, fun i hi hn => (HC.out.block i hi hn).trans (CH.block i hi hn)⟩
set_option maxHeartbeats 3200000 in
set_option maxRecDepth 100000 in
theorem found_red (t : Tb.Tab) (t' : Tb.Tab) (s : ByteArray) (E : Nat) (h3 : Nat) (v : Value) (w : World) (hv : TbV w v t) (hb : TbB t) (HF : s ∈ t.1.map (·.1) → Tb.Right t → ∀ base g wy, Ext w wy → w.heap.size ≤ g → g < base → base ≤ wy.heap.size → TbO wy base g t → Calls Tryz.prog 35 #[.pointer (some ⟨g, 0, none⟩), .int .i64 (Tb.at0 t s : Nat), .pointer (some ⟨h3, 0, none⟩)] wy fun e w' => e = .returned (.int .i64 (E : Nat)) ∧ (E = 0 → TbG w' base g t') ∧ Chg base g wy w') :
    Calls Tryz.prog 34 #[v, .string s, .func (.func 35) #[] #[.pointer (some ⟨h3, 0, none⟩)]] w fun e w' => ∃ v', e = .returned (.tuple #[v', .int .i64 ((if Tb.tbck t ≠ 0 then Tb.tbck t else if Tb.ixc t.1 s 0 < 0 then 5 else E : Nat) : Int)]) ∧ TbL w' w.heap.size v' (Tb.res (if Tb.tbck t ≠ 0 then Tb.tbck t else if Tb.ixc t.1 s 0 < 0 then 5 else E) (t')) ∧ Ext w w' := by
  have HV := hid hv
  have HB := hid hb
  obtain ⟨A, n, c, B, m, d, rfl⟩ := hv.shape
  obtain ⟨R, hR⟩ : ∃ R, R = if Tb.tbck t ≠ 0 then Tb.tbck t else if Tb.ixc t.1 s 0 < 0 then 5 else E := ⟨_, rfl⟩
  rw [← hR]
  have HR := hid hR
  have HCALL := hid (fun wz (XZ : Ext w wz) (BX1 : Blk wz (w.heap.size + 1) 9 #[.string s]) (BX2 : Blk wz (w.heap.size + 1 + 1) 68 #[.func (.func 35) #[] #[.pointer (some ⟨h3, 0, none⟩)]]) => changed_found t t' (if Tb.ixc t.1 s 0 < 0 then 5 else E) (w.heap.size + 1) (w.heap.size + 1 + 1) _ wz (hv.keep XZ) hb right_len (fun h0 base g wx hx hg hgb hbw ht => foundC_red t t' s E base g (w.heap.size + 1) (w.heap.size + 1 + 1) h3 wx ht hbw ((Tb.right_iff t).1 h0) (ext_cell hx (BX1.cell 0)) (ext_cell hx (BX2.cell 0)) (fun hm wy hy => HF hm ((Tb.right_iff t).1 h0) base g wy ((XZ.then hx).then hy) (Nat.le_trans XZ.size hg) hgb (Nat.le_trans hbw hy.size) (ht.ext hy))))
  rw [show (if Tb.tbck t ≠ 0 then Tb.tbck t else if Tb.ixc t.1 s 0 < 0 then 5 else E) = R by rw [hR]] at HCALL
  obtain ⟨TT, hTT⟩ : ∃ TT, TT = t' := ⟨_, rfl⟩
  rw [← hTT] at HCALL ⊢
  clear hv hb hR hTT HF
  go_enter Tryz.func34, Tryz.ntmps34
  go_upto_region 1 with fail
  refine wp_gen (fun w' => Ext w w' ∧ Blk w' (w.heap.size) 25 #[.slice A n c, .slice B m d] ∧ Blk w' (w.heap.size + 1) 9 #[.string s] ∧ Blk w' (w.heap.size + 1 + 1) 68 #[.func (.func 35) #[] #[.pointer (some ⟨h3, 0, none⟩)]] ∧ Blk w' (w.heap.size + 1 + 1 + 1) 25 #[.slice none 0 0, .slice none 0 0]) ⟨(((((ext_refl _).new _).new _).new _).new _), ((((blk_at _ _ (by simp)).alloc _).alloc _).alloc _), (((blk_at _ _ (by simp)).alloc _).alloc _), ((blk_at _ _ (by simp)).alloc _), (blk_at _ _ (by simp))⟩ ?_
  rintro wz ⟨XZ0, B0, B1, B2, B3⟩
  have XZ : Hid (Ext w wz) := hid XZ0
  have p0 := B0.cell 0
  have p1 := B0.cell 1
  have HRB := hid B3
  have HL2 := hid HRB.out.lt
  have HX1 := hid B1
  have HX2 := hid B2
  clear XZ0 B0 B1 B2 B3
  go_wp2_with fail
  refine Calls.mono (HCALL.out _ XZ.out HX1.out HX2.out) ?_
  rintro e w1 ⟨v', rfl, hl, hx⟩
  obtain ⟨A5, n5, c5, D5, m5, d5, rfl⟩ := hl.V.shape
  have HL := hid hl
  have X1 := hid (XZ.out.then hx)
  have R4 := hid (HRB.out.keep hx)
  clear p0 p1 hl hx
  have q0 := R4.out.cell 0
  have q1 := R4.out.cell 1
  have f0 := R4.out.frozen 0
  have f1 := R4.out.frozen 1
  go_wp2
  have HBF := hid (((R4.out.set 0 (.slice A5 n5 c5)).set 1 (.slice D5 m5 d5)).cast (cs' := #[.slice A5 n5 c5, .slice D5 m5 d5]) (by simp))
  have XF := hid (Ext.put (Ext.put X1.out (p := ⟨w.heap.size + 1 + 1 + 1, 0, none⟩) (by simp only; omega) (.slice A5 n5 c5)) (p := ⟨w.heap.size + 1 + 1 + 1, 1, none⟩) (by simp only; omega) (.slice D5 m5 d5))
  refine bodyPost_ret (results_blk2 rfl _ _ (w.heap.size + 1 + 1 + 1) 25 _ _ rfl HBF.out Tryz.underlying25 rfl (by kernel_rfl)) rfl ?_
  exact ⟨_, rfl, ((HL.out.put (p := ⟨w.heap.size + 1 + 1 + 1, 0, none⟩) HL2.out _).put (p := ⟨w.heap.size + 1 + 1 + 1, 1, none⟩) HL2.out _).low XZ.out.size, XF.out⟩
end Go.Proofs.YtolhifnlahllnaaGreatDoor
end
section
namespace Hy
open Go Go.RowKit
theorem Chg.grown {base g : Nat} {a w w' : World} {row : Option Nat} (h : Chg base g a w) (hg : w.grownBy w' row) (hb : base ≤ w.heap.size) (hr : ∀ b, row = some b → base ≤ b) : Chg base g a w' :=
  ⟨hg.os.trans h.os, hg.tape.trans h.tape, hg.output.trans h.output, Nat.le_trans h.size hg.size, fun i hi hn => (hg.block i (by omega) (by
    intro e
    have := hr i e.symm
    omega)).trans (h.block i hi hn)⟩
end Hy
namespace Hy.Tb
theorem ens_ren (l : List Ent) (k : Nat) (h : k < l.length) (n : ByteArray) : (ens l).set (k * 2) (.string n) = ens (l.modify k fun c => (n, c.2)) := by
  induction l generalizing k with
  | nil => simp at h
  | cons x r ih =>
    cases k with
    | zero => rfl
    | succ k =>
      have h' : k < r.length := by simpa using h
      have e : (k + 1) * 2 = (k * 2) + 2 := by omega
      have := ih k h'
      simp only [ens, List.flatMap_cons, ent2, List.cons_append, List.nil_append, List.modify_succ_cons, e, List.set_cons_succ] at this ⊢
      rw [this]
/-- what is wrong with another name -/
def renW (t : Tab) (n : ByteArray) (k : Nat) : Nat := if Nm.nm n.data.toList = false then 1 else if 0 ≤ ixc t.1 n 0 ∧ ixc t.1 n 0 ≠ (k : Int) then 6 else 0
end Hy.Tb
namespace Go.Proofs.YtolhifnlahllnaaGreatDoor
open Go.RowKit Hy
set_option maxHeartbeats 3200000 in
set_option maxRecDepth 100000 in
theorem dropC_any (t : Tb.Tab) (k base g : Nat) (wx : World) (ht : TbO wx base g t) (hbw : base ≤ wx.heap.size) (hR : Tb.Right t) (hk : k < t.1.length) :
    Calls Tryz.prog 64 #[.pointer (some ⟨g, 0, none⟩), .int .i64 (k : Int)] wx fun e w' => e = .returned (.int .i64 ((0 : Nat) : Int)) ∧ ((0 : Nat) = 0 → TbG w' base g (t.1.eraseIdx k, t.2.eraseIdx k)) ∧ Chg base g wx w' := by
  obtain ⟨A, c, B, d, L, hg, hgb, o1, o2, hL, hok, hpw⟩ := ht.parts
  obtain ⟨n, hn⟩ : ∃ n, n = t.1.length := ⟨_, rfl⟩
  have h6 := hR.six
  have hlen := hR.len
  rw [← hn] at hg o1
  rw [← hlen, ← hn] at hg o2
  have hLl : L.length = n := by rw [hn, hlen, ← hL, List.length_map]
  obtain ⟨j, hj⟩ : ∃ j, j + 1 = n := ⟨n - 1, by omega⟩
  obtain ⟨x, hx⟩ : ∃ x : Int, x = (k : Int) + 1 := ⟨_, rfl⟩
  have hw1 : (k : Int) + 1 = x := hx.symm
  have hxI : x ≤ 6 := by omega
  have hkI : (0 : Int) ≤ (k : Int) := by omega
  have HD1 := hid (deleteC_any t.1 A n c k base x wx hx j hj hn.symm o1 (by omega) (by omega))
  have HD2 := hid (fun wy (h2 : wy.ownsRow base 45 1 (.slice B n d) n (rws' L)) => deleteR_any L B n d k base x wy hx j hj hLl h2 (by omega) (by omega))
  have HG := hid hg
  have HO1 := hid o1; have HO2 := hid o2; have HOK := hid hok; have HLM := hid hL
  have HBW := hid hbw; have HGB := hid hgb; have HJ := hid hj; have HN := hid hn; have HK := hid hk; have HLN := hid hlen
  have a0 := hg.cell 0
  clear ht hbw hR hk hg hgb o1 o2 hL hok hpw hn h6 hlen hLl hj hx
  go_enter Tryz.func64, Tryz.ntmps64
  go_wp2_with fail
  refine Calls.mono HD1.out ?_
  rintro e w1 ⟨rfl, ho1, hgr⟩
  have HU1 := hid ho1
  have G1 := hid (Blk.grw HG.out hgr (own_nblk HO1.out HG.out (by decide)))
  have HU2 := hid (HO2.out.kept hgr (own_ne HO2.out HO1.out (by decide)))
  have HUR := hid (fun x hx => RwO.kept (HOK.out x hx) hgr (by
    have := own_ne (HOK.out x hx) HO1.out (by decide)
    cases hy : x.1.1 with
    | none => exact .inl rfl
    | some a => rw [hy] at this; exact this))
  have HGR := hid hgr
  have HSZ := hid (Nat.le_trans HBW.out hgr.size)
  have CH1 := hid ((Chg.refl base g wx).grown hgr HBW.out (fun b hb => (own_block_rng HO1.out hb).1))
  have a1 := G1.out.cell 0
  have f1 := G1.out.frozen 0
  have q1 := G1.out.cell 1
  clear ho1 hgr a0
  have G2 := hid ((G1.out.set 0 (.slice A j c)).cast (cs' := #[.slice A j c, .slice B n d]) (by simp))
  have V1 := hid (own_put HU1.out (p := ⟨g, 0, none⟩) (own_nblk HU1.out G1.out (by decide)) (.slice A j c))
  have V2 := hid (own_put HU2.out (p := ⟨g, 0, none⟩) (own_nblk HU2.out G1.out (by decide)) (.slice A j c))
  have VR := hid (fun x hx => own_put (HUR.out x hx) (p := ⟨g, 0, none⟩) (own_nblk (HUR.out x hx) G1.out (by decide)) (.slice A j c))
  have CH2 := hid (CH1.out.put ⟨g, 0, none⟩ (.inl rfl) (.slice A j c))
  have HSZ2 := hid (show base ≤ (w1.setCell ⟨g, 0, none⟩ (.slice A j c)).heap.size by rw [size_put]; exact HSZ.out)
  go_wp2_with fail
  refine Calls.mono (HD2.out _ V2.out) ?_
  rintro e w2 ⟨rfl, ho2, hgr⟩
  have G3 := hid (Blk.grw G2.out hgr (own_nblk V2.out G2.out (by decide)))
  have W1 := hid (V1.out.kept hgr (own_ne V1.out V2.out (by decide)))
  have W2 := hid ho2
  have WR := hid (fun x hx => RwO.kept (VR.out x hx) hgr (by
    have := own_ne (VR.out x hx) V2.out (by decide)
    cases hy : x.1.1 with
    | none => exact .inl rfl
    | some a => rw [hy] at this; exact this))
  have CH3 := hid (CH2.out.grown hgr HSZ2.out (fun b hb => (own_block_rng V2.out hb).1))
  clear ho2 hgr a1 f1 q1
  have a1 := G3.out.cell 1
  have f1 := G3.out.frozen 1
  go_wp2
  go_returns
  have G4 := (G3.out.set 1 (.slice B j d)).cast (cs' := #[.slice A j c, .slice B j d]) (by simp)
  have hj := HJ.out
  have hn := HN.out
  have hk := HK.out
  have hl := HLN.out
  refine ⟨rfl, fun _ => TbG.mk' (t := (t.1.eraseIdx k, t.2.eraseIdx k)) (by simp only; rw [List.length_eraseIdx_of_lt hk]; omega) (by simp only; rw [List.length_eraseIdx_of_lt (by omega)]; omega) G4 (by rw [List.eraseIdx_eq_take_drop_succ]; exact own_put W1.out (p := ⟨g, 1, none⟩) (own_nblk W1.out G3.out (by decide)) _) (own_put W2.out (p := ⟨g, 1, none⟩) (own_nblk W2.out G3.out (by decide)) _) ?_ (fun x hx => ?_), CH3.out.put ⟨g, 1, none⟩ (.inl rfl) _⟩
  · show (L.take k ++ L.drop (k + 1)).map (·.2) = t.2.eraseIdx k
    rw [← HLM.out, List.eraseIdx_eq_take_drop_succ, List.map_append, List.map_take, List.map_drop]
  · have hx' : x ∈ L := by
      rcases List.mem_append.1 hx with h | h
      · exact List.mem_of_mem_take h
      · exact List.mem_of_mem_drop h
    exact own_put (WR.out x hx') (p := ⟨g, 1, none⟩) (own_nblk (WR.out x hx') G3.out (by decide)) _
set_option maxHeartbeats 3200000 in
set_option maxRecDepth 100000 in
theorem renC_any (t : Tb.Tab) (s : ByteArray) (k base g h1 : Nat) (wx : World) (ht : TbO wx base g t) (hbw : base ≤ wx.heap.size) (hR : Tb.Right t) (hk : k < t.1.length) (hs : wx.cell? ⟨h1, 0, none⟩ = some (.string s)) (hsz : s.size ≤ 140737488355328) :
    Calls Tryz.prog 67 #[.pointer (some ⟨g, 0, none⟩), .int .i64 (k : Int), .pointer (some ⟨h1, 0, none⟩)] wx fun e w' => e = .returned (.int .i64 (Tb.renW t s k : Nat)) ∧ (Tb.renW t s k = 0 → TbG w' base g (t.1.modify k (fun c => (s, c.2)), t.2)) ∧ Chg base g wx w' := by
  obtain ⟨A, c, B, d, L, hg, hgb, o1, o2, hL, hok, hpw⟩ := ht.parts
  obtain ⟨n, hn⟩ : ∃ n, n = t.1.length := ⟨_, rfl⟩
  obtain ⟨m, hm⟩ : ∃ n, n = t.2.length := ⟨_, rfl⟩
  have h6 := hR.six
  rw [← hn] at hg o1
  rw [← hm] at hg o2
  have HAT := hid (fun wy (hx : Ext wx wy) => tat_any t.1 s A n c wy hn.symm ((own_rd o1).1.keep hx) (by omega))
  have HNM := hid (fun wy => name_any s wy hsz)
  obtain ⟨x, hx⟩ : ∃ x, x = Tb.ixc t.1 s 0 := ⟨_, rfl⟩
  rw [← hx] at HAT
  have HW := hid (show Tb.renW t s k = if Nm.nm s.data.toList = false then 1 else if 0 ≤ x ∧ x ≠ (k : Int) then 6 else 0 by unfold Tb.renW; rw [hx])
  obtain ⟨R, hR2⟩ : ∃ R, R = Tb.renW t s k := ⟨_, rfl⟩
  rw [← hR2] at HW ⊢
  obtain ⟨nb, hnb⟩ : ∃ b, b = Nm.nm s.data.toList := ⟨_, rfl⟩
  rw [← hnb] at HW HNM
  have HG := hid hg
  have HO1 := hid o1; have HO2 := hid o2; have HOK := hid hok; have HLM := hid hL
  have HBW := hid hbw; have HN := hid hn; have HM := hid hm; have HK := hid (show k < n by omega)
  have HS := hid hs
  have hkI : (0 : Int) ≤ (k : Int) := by omega
  have hkn : (k : Int) < (n : Int) := by omega
  have hnI : (n : Int) ≤ 6 := by omega
  have a0 := hs
  have a1 := hg.cell 0
  have a0r := cell_regrown a0
  have a1r := cell_regrown a1
  clear ht hR hk hs hsz hg hgb hbw o1 o2 hL hok hpw hn hm h6 hx hR2 hnb
  go_enter Tryz.func67, Tryz.ntmps67
  go_upto_region 1 with fail
  refine wp_region_walk [(0, true), (1, true), (2, true), (3, true), (4, true), (5, false), (6, true)] (by kernel_rfl) (by kernel_rfl) (fun _ _ _ _ _ h => h) (by kernel_rfl) (by rfl) ?_
  simp only [List.filterMap_cons, List.filterMap_nil, List.getElem?_toArray, List.getElem?_cons_zero, List.getElem?_cons_succ, Option.map_some]
  repeat (refine wpM_val (by rfl) ?_; intro K hK; go_big_quiet_op; go_big_quiet_on)
  have Y0 : Ext wx wx.drew := (ext_refl wx).draw
  refine wpM_do (by rfl) ?_
  intro K hK
  go_simp
  refine Calls.mono (HAT.out _ Y0) ?_
  rintro e y1 ⟨rfl, hx⟩
  have Y1 := Ext.then Y0 hx
  refine hK _ _ Y1 ?_
  have X1 := hid Y1
  clear K hK hx Y0 Y1 a0r a1r a0 a1
  repeat (refine wpM_val (by rfl) ?_; intro K hK; go_big_quiet_op; go_big_quiet_on)
  refine wpM_nil ?_
  have a0 := ext_cell X1.out HS.out
  go_wp2_with fail
  refine Calls.mono (HNM.out _) ?_
  rintro e y2 ⟨rfl, hx⟩
  have X2 := hid (X1.out.then hx)
  clear hx a0
  have CH2 := hid ((Chg.refl base g wx).ext HBW.out X2.out)
  cases nb with
  | false =>
    have HV := hid (HW.out.trans (if_pos rfl))
    clear HW
    go_wp2
    go_returns
    exact ⟨by rw [HV.out]; rfl, fun h => absurd (HV.out.symm.trans h) (by decide), CH2.out⟩
  | true =>
    have HW2 := hid (HW.out.trans (if_neg (by decide)))
    clear HW
    by_cases hbad : 0 ≤ x ∧ x ≠ (k : Int)
    · obtain ⟨hb1, hb2⟩ := hbad
      have HV := hid (HW2.out.trans (if_pos ⟨hb1, hb2⟩))
      have e1 : (x == (k : Int)) = false := beq_eq_false_iff_ne.2 hb2
      have e2 : (x != (k : Int)) = true := bne_iff_ne.2 hb2
      clear HW2 hb2
      go_wp2
      go_returns
      exact ⟨by rw [HV.out]; rfl, fun h => absurd (HV.out.symm.trans h) (by decide), CH2.out⟩
    · have HV := hid (HW2.out.trans (if_neg hbad))
      have hd1 : decide (0 ≤ x) = false ∨ (decide (0 ≤ x) = true ∧ (x != (k : Int)) = false) := by
        by_cases h0 : 0 ≤ x
        · right
          refine ⟨by simpa using h0, ?_⟩
          have : x = (k : Int) := Classical.byContradiction fun h => hbad ⟨h0, h⟩
          simp [this]
        · left; simpa using h0
      clear HW2 hbad
      have a0 := ext_cell X2.out HS.out
      have a1 := (HG.out.keep X2.out).cell 0
      have a0r := cell_regrown a0
      have a1r := cell_regrown a1
      have U1 := hid (own_ext HO1.out X2.out)
      have U2 := hid (own_ext HO2.out X2.out)
      have G2 := hid (HG.out.keep X2.out)
      have UR := hid (fun x hx => (HOK.out x hx).ext X2.out)
      obtain ⟨gb, eB⟩ := own_some U1.out (by have := HK.out; omega)
      have heB := hid eB
      have hka : k < t.1.length := by have := HK.out; rw [← HN.out]; exact this
      obtain ⟨b2, o2, e2, l2, c2⟩ := (own_rd U1.out).1.ents k hka
      obtain ⟨rfl, rfl⟩ : b2 = gb ∧ o2 = 0 := by
        rw [eB] at e2; injection e2 with e2; injection e2 with e2 e4; exact ⟨e2.symm, e4.symm⟩
      have r0 := (c2 k hka).1
      rw [Nat.zero_add] at r0
      have hsn := hid (Tb.ens_ren t.1 k hka s)
      generalize t.1[k].1 = nm0 at r0
      clear c2 l2 e2 eB hka
      have eB := heB.out
      subst eB
      obtain ⟨hgb2, _, cur, hcur', _⟩ := own_cur U1.out
      have HGB2 := hid hgb2
      have hcur : Blk y2 b2 39 cur := hcur'
      have HCU := hid hcur
      have fz := Blk.frozen (hcur.keep (ext_refl y2).draw) (k * 2)
      have r1 := ext_cell (ext_refl y2).draw r0
      clear hcur hcur' hgb2
      rcases hd1 with hd1 | ⟨hd1, hd2⟩
      all_goals
        go_upto_region 6 with fail
        refine wp_region_late [8] [] [(0, true), (1, true), (2, true), (3, true), (4, true), (5, true), (6, true), (7, true), (8, false)] (by kernel_rfl) (by kernel_rfl) (fun _ _ _ _ _ h => h) (by kernel_rfl) (by rfl) ?_
        simp only [List.filterMap_cons, List.filterMap_nil, List.getElem?_toArray, List.getElem?_cons_zero, List.getElem?_cons_succ, Option.map_some, List.contains_cons, List.contains_nil, Nat.reduceBEq, Bool.or_false]
        repeat (refine wpL_val (by rfl) ?_; intro K hK; go_big_quiet_op; go_big_quiet_on)
        refine wpL_late (by rfl) ?_
        intro K hK
        go_simp
        refine hK _ _ ?_
        clear K hK
        refine wpL_nil ?_
        go_wp2
        go_returns
        have Y0 : Ext y2 y2.drew := (ext_refl y2).draw
        have hbU : ∀ {e : TypeId} {size : Nat} {u : Value} {q : Nat} {xs : List Value}, y2.ownsRow base e size u q xs → e ≠ 39 → (y2.drew.setCell ⟨b2, k * 2, none⟩ (.string s)).ownsRow base e size u q xs := fun h he => own_put (own_ext h Y0) (p := ⟨b2, k * 2, none⟩) (own_nblk (own_ext h Y0) (HCU.out.keep Y0) he) _
        have hne : g ≠ b2 := by
          intro e
          have h1 : Blk y2 g 25 _ := G2.out
          have h2 : Blk y2 b2 39 cur := HCU.out
          rw [e] at h1
          unfold Blk at h1 h2
          rw [h1] at h2
          injection h2 with h2
          injection h2 with _ h2
          exact absurd h2 (by decide)
        refine ⟨by rw [HV.out]; rfl, fun _ => TbG.mk' (t := (t.1.modify k fun c => (s, c.2), t.2)) (by simp only [List.length_modify]; exact HN.out) HM.out ((G2.out.keep Y0).far (p := ⟨b2, k * 2, none⟩) hne _) (by rw [← hsn.out]; exact own_set (own_ext U1.out Y0) rfl (k * 2) (.string s)) (hbU U2.out (by decide)) HLM.out (fun x hx => hbU (UR.out x hx) (by decide)), (CH2.out.ext (Nat.le_trans HBW.out X2.out.size) Y0).put ⟨b2, k * 2, none⟩ (.inr HGB2.out) _⟩
end Go.Proofs.YtolhifnlahllnaaGreatDoor
end
section
namespace Hy.Tb
theorem rc_zero (f : Nat → Bool) (l : List Cel) : rc f 0 l = l := by
  unfold rc
  apply List.ext_getElem
  · simp
  · intro i h1 h2; simp [h2]
theorem rc_len (f : Nat → Bool) (n : Nat) (l : List Cel) : (rc f n l).length = l.length := by unfold rc; simp
theorem rc_no {f : Nat → Bool} {n : Nat} {l : List Cel} (h : f n = false) : rc f (n + 1) l = rc f n l := by
  unfold rc
  apply List.map_congr_left
  intro i _
  by_cases h1 : i = n
  · subst h1; simp [h]
  · have : (i < n + 1 ∧ f i = true) ↔ (i < n ∧ f i = true) := by constructor <;> intro ⟨h2, h3⟩ <;> exact ⟨by omega, h3⟩
    simp [this]
theorem rc_yes {f : Nat → Bool} {n : Nat} {l : List Cel} (h : f n = true) : rc f (n + 1) l = (rc f n l).set n Cnd.O := by
  apply List.ext_getElem
  · simp [rc_len]
  · intro i h1 h2
    rw [rc_len] at h1
    rw [List.getElem_set]
    unfold rc
    simp only [List.getElem_map, List.getElem_range]
    by_cases h3 : n = i
    · subst h3; simp [h]
    · have : (i < n + 1 ∧ f i = true) ↔ (i < n ∧ f i = true) := by constructor <;> intro ⟨h4, h5⟩ <;> exact ⟨by omega, h5⟩
      simp [this, h3]
theorem cls_set (l : List Cel) (k : Nat) (h : k < l.length) (c : Cel) : (((cls l).set (k * 3) (.int .i64 c.1)).set (k * 3 + 1) (.int .u64 (c.2.1 : Nat))).set (k * 3 + 2) (.string c.2.2) = cls (l.set k c) := by
  induction l generalizing k with
  | nil => simp at h
  | cons x r ih =>
    cases k with
    | zero => rfl
    | succ k =>
      have h' : k < r.length := by simpa using h
      have e : (k + 1) * 3 = (k * 3) + 3 := by omega
      have e1 : k * 3 + 3 + 1 = k * 3 + 1 + 3 := by omega
      have e2 : k * 3 + 3 + 2 = k * 3 + 2 + 3 := by omega
      have := ih k h'
      simp only [cls, List.flatMap_cons, cel3, List.cons_append, List.nil_append, e, e1, e2, List.set_cons_succ] at this ⊢
      rw [this]
theorem mod_get {d : List (List Cel)} {g : List Cel → List Cel} {a : Nat} (ha : a < d.length) (h : a < (d.modify a g).length) : (d.modify a g)[a] = g d[a] := by simp
theorem mod_set {d : List (List Cel)} {g : List Cel → List Cel} {a : Nat} (v : List Cel) : (d.modify a g).set a v = d.modify a fun _ => v := by
  apply List.ext_getElem
  · simp
  · intro i h1 h2
    rw [List.getElem_set, List.getElem_modify]
    by_cases h3 : a = i
    · simp [h3]
    · simp [h3]
theorem mod_congr {d : List (List Cel)} {f g : List Cel → List Cel} {a : Nat} (ha : a < d.length) (h : f d[a] = g d[a]) : d.modify a f = d.modify a g := by
  apply List.ext_getElem
  · simp
  · intro i h1 h2
    rw [List.getElem_modify, List.getElem_modify]
    by_cases h3 : a = i
    · subst h3; simp [h]
    · simp [h3]
end Hy.Tb
namespace Hy
theorem rws_same {L : List Rw} {k : Nat} (hk : k < L.length) {z : Rw} (h : L[k].1 = z.1) : rws' (L.set k z) = rws' L := by
  rw [rws_map, rws_map, List.map_set]
  apply List.ext_getElem
  · simp
  · intro i h1 h2
    rw [List.getElem_set]
    split
    · rename_i e; subst e; simp [h]
    · rfl
end Hy
namespace Go.Proofs.YtolhifnlahllnaaGreatDoor
open Go.RowKit Hy
set_option maxHeartbeats 6400000 in
set_option maxRecDepth 100000 in
theorem redC_any (t : Tb.Tab) (p : List Cnd) (a base g h1 : Nat) (P : Option Addr) (np pcap : Nat) (wx : World) (ht : TbO wx base g t) (hbw : base ≤ wx.heap.size) (hR : Tb.Right t) (hB : TbB t) (hp1 : wx.cell? ⟨h1, 0, none⟩ = some (.slice P np pcap)) (hpn : p.length = np) (hp : Rd wx P (cns p)) (hnl : np ≤ 140737488355328) (hka : a < t.1.length) :
    Calls Tryz.prog 35 #[.pointer (some ⟨g, 0, none⟩), .int .i64 (a : Int), .pointer (some ⟨h1, 0, none⟩)] wx fun e w' => e = .returned (.int .i64 (Cnd.chk (Tb.knds t.1) p : Nat)) ∧ (Cnd.chk (Tb.knds t.1) p = 0 → TbG w' base g (t.1, t.2.modify a (Tb.rc (Tb.tr p t.2) (Tb.many t)))) ∧ Chg base g wx w' := by
  obtain ⟨A, c, B, d, L, hg, hgb, o1, o2, hL, hok, hpw⟩ := ht.parts
  obtain ⟨n, hn⟩ : ∃ n, n = t.1.length := ⟨_, rfl⟩
  obtain ⟨m, hm⟩ : ∃ n, n = t.2.length := ⟨_, rfl⟩
  have h6 := hR.six
  have hlen := hR.len
  rw [← hn] at hg o1
  rw [← hm] at hg o2
  have hv := TbV.of hn hm o1 o2 hL hok
  have HKN := hid (fun wy (hx : Ext wx wy) => kinds_any t.1 A n c wy hn.symm ((own_rd o1).1.keep hx) (by omega))
  have HCK := hid (fun (K : Option Addr) (kc : Nat) wy (hx : Ext wx wy) (hk : Rd wy K (i64s (Tb.knds t.1))) => pCheck_any (Tb.knds t.1) p P K np pcap n kc wy hpn (hp.keep hx) hnl (by rw [Tb.knds_len, hn]) hk (by omega))
  have HTR := hid (fun (h0 : Cnd.chk (Tb.knds t.1) p = 0) wy (hx : Ext wx wy) => true_any t p (Tb.knds t.1) _ P np pcap wy (hv.keep hx) hB (by omega) hR.row hR.lim h0 (by rw [Tb.knds_len]; omega) hpn (hp.keep hx))
  have HG := hid hg
  have HGB := hid hgb; have HBW := hid hbw
  have HN := hid hn; have HM := hid hm
  have HO1 := hid o1; have HO2 := hid o2; have HLM := hid hL; have HOK := hid hok; have HR := hid hR; have HPW := hid hpw; have HKA := hid hka
  have HM6 := hid (show m ≤ 6 by omega)
  have hmI : (m : Int) ≤ 6 := by omega
  have a0 := hp1
  have a1 := hg.cell 0
  have a0r := cell_regrown a0
  have a1r := cell_regrown a1
  obtain ⟨E, hE⟩ : ∃ E, E = Cnd.chk (Tb.knds t.1) p := ⟨_, rfl⟩
  rw [← hE] at HCK HTR ⊢
  obtain ⟨M, hM⟩ : ∃ M, M = Tb.many t := ⟨_, rfl⟩
  rw [← hM] at HTR
  have HMM := hid hM
  clear hM
  clear ht hR hB hpn hp hnl hg hgb hbw o1 o2 hL hok hpw hn hm h6 hlen hv hE hka
  go_enter Tryz.func35, Tryz.ntmps35
  go_upto_region 1 with fail
  refine wp_region_walk [(0, true), (1, true), (2, true), (3, true), (4, true), (5, false), (6, false), (7, true)] (by kernel_rfl) (by kernel_rfl) (fun _ _ _ _ _ h => h) (by kernel_rfl) (by rfl) ?_
  simp only [List.filterMap_cons, List.filterMap_nil, List.getElem?_toArray, List.getElem?_cons_zero, List.getElem?_cons_succ, Option.map_some]
  repeat (refine wpM_val (by rfl) ?_; intro K hK; go_big_quiet_op; go_big_quiet_on)
  have Y0 : Ext wx wx.drew := (ext_refl wx).draw
  refine wpM_do (by rfl) ?_
  intro K hK
  go_simp
  refine Calls.mono (HKN.out _ Y0) ?_
  rintro e y1 ⟨v1, rfl, ho, hx⟩
  obtain ⟨K1, kc1, rfl, hrd, _⟩ := Rd.owned ho
  have Y1 := Ext.then Y0 hx
  have HRD := hid hrd
  refine hK _ _ Y1 ?_
  clear K hK hx ho hrd
  repeat (refine wpM_val (by rfl) ?_; intro K hK; go_big_quiet_op; go_big_quiet_on)
  refine wpM_do (by rfl) ?_
  intro K hK
  go_simp
  refine Calls.mono (HCK.out _ _ _ Y1 HRD.out) ?_
  rintro e y2 ⟨rfl, hx⟩
  have Y2 := Ext.then Y1 hx
  refine hK _ _ Y2 ?_
  have X2 := hid Y2
  clear K hK hx Y0 Y1 Y2 HRD a0r a1r a0 a1
  repeat (refine wpM_val (by rfl) ?_; intro K hK; go_big_quiet_op; go_big_quiet_on)
  refine wpM_nil ?_
  by_cases h0 : E = 0
  · have HT2 := hid (HTR.out h0)
    subst h0
    have a0 := ext_cell X2.out hp1
    have a1 := (HG.out.keep X2.out).cell 0
    have a2 := (HG.out.keep X2.out).cell 1
    have a0r := cell_regrown a0
    have a1r := cell_regrown a1
    have a2r := cell_regrown a2
    clear HTR HCK HKN
    go_upto_region 4 with fail
    refine wp_region_walk [(0, true), (1, true), (2, true), (3, true), (6, true), (4, false), (5, false)] (by kernel_rfl) (by kernel_rfl) (fun _ _ _ _ _ h => h) (by kernel_rfl) (by rfl) ?_
    simp only [List.filterMap_cons, List.filterMap_nil, List.getElem?_toArray, List.getElem?_cons_zero, List.getElem?_cons_succ, Option.map_some]
    repeat (refine wpM_val (by rfl) ?_; intro K hK; go_big_quiet_op; go_big_quiet_on)
    refine wpM_do (by rfl) ?_
    intro K hK
    go_simp
    have Y0 : Ext y2 y2.drew := (ext_refl y2).draw
    refine Calls.mono (HT2.out _ (X2.out.then Y0)) ?_
    rintro e w1 ⟨vi, rfl, ho, hx⟩
    obtain ⟨I, ic, rfl, hrd, hI0, _⟩ := Rd.owned ho
    have Y1 := Ext.then Y0 hx
    have HI := hid (own_low' ho (Nat.le_trans HBW.out (X2.out.then Y0).size))
    refine hK _ _ Y1 ?_
    have X3 := hid (X2.out.then Y1)
    have Y3 := hid Y1
    clear K hK hx ho hrd a0r a1r a2r a0 a1 a2 Y0 Y1 hI0
    refine wpM_do (by rfl) ?_
    intro K hK
    go_simp
    refine hK _ _ Y3.out ?_
    clear K hK
    repeat (refine wpM_val (by rfl) ?_; intro K hK; go_big_quiet_op; go_big_quiet_on)
    refine wpM_nil ?_
    have G0 := hid (HG.out.keep X3.out)
    have P1 := hid (own_ext HO1.out X3.out)
    have P2 := hid (own_ext HO2.out X3.out)
    have PO := hid (fun x hx => (HOK.out x hx).ext X3.out)
    have BW0 := hid (Nat.le_trans HBW.out X3.out.size)
    have CH0 := hid (show Chg base g wx w1 from (Chg.refl base g wx).ext HBW.out X3.out)
    have HM128 := hid (show M ≤ 128 by rw [HMM.out]; exact HR.out.lim)
    have hMI : (M : Int) ≤ 128 := by have := HM128.out; omega
    have haI : (0 : Int) ≤ (a : Int) := by omega
    have ham : (a : Int) < (m : Int) := by have h1 := HKA.out; have h2 := HR.out.len; have h3 := HM.out; omega
    clear HO1 HO2 HOK
    go_wp2
    go_loopw [7, 8, 25] (fun _ _ ii wr => ∃ k : Nat, k ≤ M ∧ ii = .int .i64 k ∧ ∃ L', Hid (Blk wr g 25 #[.slice A n c, .slice B m d]) ∧ Hid (wr.ownsRow base 39 2 (.slice A n c) n (ens t.1)) ∧ Hid (wr.ownsRow base 45 1 (.slice B m d) m (rws' L')) ∧ Hid (wr.ownsRow base 4 1 (.slice I M ic) M (bls (Tb.trs p t.2 M))) ∧ Hid (L'.map (·.2) = t.2.modify a (Tb.rc (Tb.tr p t.2) k)) ∧ Hid (∀ x ∈ L', RwO wr base x) ∧ Hid (L'.Pairwise RwD) ∧ Hid (Chg base g wx wr) ∧ Hid (base ≤ wr.heap.size)) (fun _ _ ii _ => M - (intOf ii).toNat)
    case atStart => exact ⟨0, Nat.zero_le _, rfl, L, G0, P1, P2, HI, hid (by
      rw [HLM.out]
      apply List.ext_getElem
      · simp
      · intro i h1 h2
        rw [List.getElem_modify]
        split
        · rw [Tb.rc_zero]
        · rfl), PO, HPW, CH0, BW0⟩
    case round =>
      obtain ⟨k, hk, rfl, L', HF, Q1, Q2, QI, HL', HR', HP', HCH, HBR⟩ := hrel
      by_cases hlt : k < M
      · have had : a < t.2.length := by rw [← HR.out.len]; exact HKA.out
        have hrow := HR.out.row _ (List.getElem_mem had)
        rw [← HMM.out] at hrow
        obtain ⟨b4, o4, e4, l4, c4⟩ := (own_rd QI.out).1.bool (by rw [Tb.trs_len]; omega)
        have qb := c4 k (by rw [Tb.trs_len]; exact hlt)
        rw [Tb.trs_get p t.2 M k hlt] at qb
        have hltI : (k : Int) < (M : Int) := by omega
        have he4 := hid e4
        by_cases hT : Tb.tr p t.2 k = true
        · have HST := hid (Tb.rc_yes (f := Tb.tr p t.2) (l := t.2[a]) hT)
          rw [hT] at qb
          have hLl : L'.length = m := by
            have h1 := congrArg List.length HL'.out
            have h2 := HM.out
            simp only [List.length_map, List.length_modify] at h1
            omega
          have haL : a < L'.length := by have h2 := HM.out; omega
          have hlk : L'[a].2 = Tb.rc (Tb.tr p t.2) k t.2[a] := by
            have h1 := List.getElem_of_eq HL'.out (i := a) (by rw [List.length_map]; exact haL)
            rw [List.getElem_map] at h1
            rw [h1]
            exact Tb.mod_get had _
          obtain ⟨gb, eB⟩ := own_some Q2.out (by have h2 := HM.out; omega)
          obtain ⟨b2, o2, e2, l2, c2⟩ := (own_rd Q2.out).1.rows a haL
          obtain ⟨rfl, rfl⟩ : b2 = gb ∧ o2 = 0 := by
            rw [eB] at e2; injection e2 with e2; injection e2 with e2 e4; exact ⟨e2.symm, e4.symm⟩
          have r0 := c2 a haL
          rw [Nat.zero_add] at r0
          have RK := HR'.out _ (List.getElem_mem haL)
          unfold RwO at RK
          rw [hlk] at RK
          have hlkM : L'[a].1.2.1 = M := by
            have h1 := RK.1
            rw [cls_len, Tb.rc_len, hrow] at h1
            omega
          rw [hlkM] at RK r0
          have HDJ := hid (fun i (hi : i < L'.length) (hne : i ≠ a) => rwd_at HP'.out hi haL hne)
          have HMS := hid (Tb.mod_set (a := a) (d := t.2) (g := Tb.rc (Tb.tr p t.2) k) (Tb.rc (Tb.tr p t.2) (k + 1) t.2[a]))
          have HMC := hid (Tb.mod_congr (f := fun _ => Tb.rc (Tb.tr p t.2) (k + 1) t.2[a]) (g := Tb.rc (Tb.tr p t.2) (k + 1)) had rfl)
          obtain ⟨lc, hlc⟩ : ∃ lc, lc = Tb.rc (Tb.tr p t.2) k t.2[a] := ⟨_, rfl⟩
          have hlcl : lc.length = M := by rw [hlc, Tb.rc_len, hrow]
          rw [← hlc] at RK HST
          generalize hLK : L'[a].1.1 = LK at *
          have HLK := hid hLK
          generalize hCK : L'[a].1.2.2 = ck at *
          have HZ := hid (show L'[a].1 = (LK, M, ck) from Prod.ext hLK (Prod.ext hlkM hCK))
          obtain ⟨ba, eA⟩ := own_some RK (by omega)
          obtain ⟨b3, o3, e3, l3, c3⟩ := (own_rd RK).1.cels k (by rw [hlcl]; exact hlt)
          obtain ⟨rfl, rfl⟩ : b3 = ba ∧ o3 = 0 := by
            rw [eA] at e3; injection e3 with e3; injection e3 with e3 e5; exact ⟨e3.symm, e5.symm⟩
          obtain ⟨s0, s1, s2⟩ := c3 k (by rw [hlcl]; exact hlt)
          rw [Nat.zero_add] at s0 s1 s2
          obtain ⟨hgb3, _, cur, hcur', _⟩ := own_cur (show wr.ownsRow base 42 3 (.slice (some ⟨b3, 0, none⟩) M ck) M (cls lc) by rw [← eA]; exact RK)
          have hcur : Blk wr b3 42 cur := hcur'
          have HCU := hid hcur
          have HGB3 := hid hgb3
          have f0 := Blk.frozen hcur (k * 3)
          have f1 := Blk.frozen hcur (k * 3 + 1)
          have f2 := Blk.frozen hcur (k * 3 + 2)
          have HRK := hid RK
          have HCS := hid (Tb.cls_set lc k (by rw [hlcl]; exact hlt) Cnd.O)
          have a1 := HF.out.cell 1
          have heB := hid eB
          have heA := hid eA
          have hSL := hid (show L'.length = m from hLl)
          generalize lc[k].1 = z1 at *
          generalize lc[k].2.1 = z2 at *
          generalize lc[k].2.2 = z3 at *
          clear c2 c3 c4 l2 l3 l4 e2 e3 e4 eA eB hlk hlkM hlc hlcl hLK hCK RK hcur hcur' hgb3 hrow hT hLl
          have e4 := he4.out
          have eB := heB.out
          have eA := heA.out
          subst e4 eB eA
          go_wp2
          have hne : ∀ {ty : TypeId} {j : Nat} {cs : Array Value}, Blk wr j ty cs → ty ≠ 42 → j ≠ b3 := fun hb he e => by
            have h2 : Blk wr b3 42 cur := HCU.out
            rw [e] at hb
            unfold Blk at hb h2
            rw [hb] at h2
            injection h2 with h2
            injection h2 with _ h2
            exact he h2
          have hbU : ∀ {e : TypeId} {size : Nat} {u : Value} {q : Nat} {xs : List Value}, wr.ownsRow base e size u q xs → u.ownBlock ≠ some b3 → (((wr.setCell ⟨b3, k * 3, none⟩ (.int .i64 0)).setCell ⟨b3, k * 3 + 1, none⟩ (.int .u64 0)).setCell ⟨b3, k * 3 + 2, none⟩ (.string ⟨#[]⟩)).ownsRow base e size u q xs := fun h he => own_put (own_put (own_put h (p := ⟨b3, k * 3, none⟩) he _) (p := ⟨b3, k * 3 + 1, none⟩) he _) (p := ⟨b3, k * 3 + 2, none⟩) he _
          go_roundw
          case rel =>
            refine ⟨k + 1, by omega, by go_num, L'.set a ((some ⟨b3, 0, none⟩, M, ck), lc.set k Cnd.O), hid (((HF.out.far (p := ⟨b3, k * 3, none⟩) (hne HF.out (by decide)) _).far (p := ⟨b3, k * 3 + 1, none⟩) (hne HF.out (by decide)) _).far (p := ⟨b3, k * 3 + 2, none⟩) (hne HF.out (by decide)) _), hid (hbU Q1.out (own_nblk Q1.out HCU.out (by decide))), hid ?_, hid (hbU QI.out (own_nblk QI.out HCU.out (by decide))), hid ?_, hid ?_, hid ?_, hid ?_, hid ?_⟩
            · rw [rws_same haL HZ.out]
              exact hbU Q2.out (own_nblk Q2.out HCU.out (by decide))
            · rw [List.map_set, HL'.out, ← HMC.out, ← HMS.out, HST.out]
            · intro x hx
              obtain ⟨i, hi, rfl⟩ := List.mem_iff_getElem.1 hx
              rw [List.length_set] at hi
              rw [List.getElem_set]
              by_cases h1 : a = i
              · rw [if_pos h1]
                have := own_set (own_set (own_set HRK.out rfl (k * 3) (.int .i64 0)) rfl (k * 3 + 1) (.int .u64 0)) rfl (k * 3 + 2) (.string ⟨#[]⟩)
                rw [show ((((cls lc).set (k * 3) (.int .i64 0)).set (k * 3 + 1) (.int .u64 0)).set (k * 3 + 2) (.string ⟨#[]⟩)) = cls (lc.set k Cnd.O) from HCS.out] at this
                exact this
              · rw [if_neg h1]
                refine hbU (HR'.out _ (List.getElem_mem hi)) (fun e => ?_)
                cases hy : L'[i].1.1 with
                | none => rw [hy] at e; cases e
                | some b =>
                  rw [hy] at e
                  exact HDJ.out i hi (by omega) b ⟨b3, 0, none⟩ hy HLK.out (Option.some.inj e)
            · refine rwd_set _ HP'.out (fun i hi hne' x y hx hy => ?_)
              exact HDJ.out i hi hne' x y hx (HLK.out.trans hy)
            · exact ((HCH.out.put ⟨b3, k * 3, none⟩ (.inr HGB3.out) _).put ⟨b3, k * 3 + 1, none⟩ (.inr HGB3.out) _).put ⟨b3, k * 3 + 2, none⟩ (.inr HGB3.out) _
            · rw [size_put, size_put, size_put]; exact HBR.out
          case measure => simp [intOf]; omega
        · have hTf : Tb.tr p t.2 k = false := by simpa using hT
          have HRN := hid (Tb.mod_congr (f := Tb.rc (Tb.tr p t.2) (k + 1)) (g := Tb.rc (Tb.tr p t.2) k) had (Tb.rc_no hTf))
          rw [hTf] at qb
          clear c4 l4 e4 hT hTf had hrow
          have e4 := he4.out
          subst e4
          go_wp2
          go_roundw
          case rel => exact ⟨k + 1, by omega, by go_num, L', HF, Q1, Q2, QI, by rw [HRN.out]; exact HL', HR', HP', HCH, HBR⟩
          case measure => simp [intOf]; omega
      · obtain rfl : M = k := by omega
        go_wp2
        go_returns
        refine ⟨rfl, TbG.mk' (t := (t.1, t.2.modify a (Tb.rc (Tb.tr p t.2) (Tb.many t)))) HN.out (by simp only [List.length_modify]; exact HM.out) HF.out Q1.out Q2.out ?_ HR'.out, HCH.out⟩
        rw [HL'.out, HMM.out]
  · have e1 : ((E : Int) == 0) = false := beq_eq_false_iff_ne.2 (by omega)
    have e2 : ((E : Int) != 0) = true := by simp; omega
    have HE := hid h0
    clear h0
    go_wp2
    go_returns
    exact ⟨rfl, fun h => absurd h HE.out, (Chg.refl base g wx).ext HBW.out X2.out⟩
end Go.Proofs.YtolhifnlahllnaaGreatDoor
end
section
namespace Hy.Tb
/-- names, from their bytes -/
def bas (l : List (List UInt8)) : List ByteArray := l.map fun b => ⟨b.toArray⟩
theorem bas_len (l : List (List UInt8)) : (bas l).length = l.length := List.length_map _
theorem bas_get (l : List (List UInt8)) (k : Nat) (hk : k < l.length) : (bas l)[k]'(by rw [bas_len]; exact hk) = ⟨l[k].toArray⟩ := by unfold bas; rw [List.getElem_map]
/-- columns and their cells, by names -/
def selC (t : Tab) (ns : List ByteArray) : List Ent := ns.map fun n => t.1.getD (at0 t n) (ByteArray.empty, 0)
def selD (t : Tab) (ns : List ByteArray) : List (List Cel) := ns.map fun n => t.2.getD (at0 t n) []
theorem selC_snoc (t : Tab) (l : List ByteArray) (n : ByteArray) : selC t (l ++ [n]) = selC t l ++ [t.1.getD (at0 t n) (ByteArray.empty, 0)] := by unfold selC; rw [List.map_append]; rfl
theorem selD_snoc (t : Tab) (l : List ByteArray) (n : ByteArray) : selD t (l ++ [n]) = selD t l ++ [t.2.getD (at0 t n) []] := by unfold selD; rw [List.map_append]; rfl
theorem few {t : Tab} (h : Right t) {l : List ByteArray} (hn : l.Nodup) (hm : ∀ n ∈ l, n ∈ t.1.map (·.1)) : l.length ≤ 6 := by
  have := List.Nodup.length_le_of_subset hn (fun x hx => hm x hx)
  have h6 := h.six
  simp only [List.length_map] at this
  omega
end Hy.Tb
namespace Go.Proofs.YtolhifnlahllnaaGreatDoor
open Go.RowKit Hy
set_option maxHeartbeats 6400000 in
set_option maxRecDepth 100000 in
theorem projC_any (t : Tb.Tab) (l : List (List UInt8)) (base g h1 : Nat) (N : Option Addr) (nn nc : Nat) (wx : World) (ht : TbO wx base g t) (hbw : base ≤ wx.heap.size) (hR : Tb.Right t) (hN : wx.cell? ⟨h1, 0, none⟩ = some (.slice N nn nc)) (hb1 : h1 < base) (hg1 : h1 ≠ g) (hl : l.length = nn) (hr : Rd wx N (txs l)) (hnl : nn ≤ 140737488355328) (hnc : nn ≤ nc) :
    Calls Tryz.prog 41 #[.pointer (some ⟨g, 0, none⟩), .pointer (some ⟨h1, 0, none⟩)] wx fun e w' => e = .returned (.int .i64 (Tb.prj t.1 [] (Tb.bas l) : Nat)) ∧ (Tb.prj t.1 [] (Tb.bas l) = 0 → TbG w' base g (Tb.projT t (Tb.bas l))) ∧ Chg base g wx w' := by
  obtain ⟨A, c, B, d, L, hg, hgb, o1, o2, hL, hok, hpw⟩ := ht.parts
  obtain ⟨n, hn⟩ : ∃ n, n = t.1.length := ⟨_, rfl⟩
  obtain ⟨m, hm⟩ : ∃ n, n = t.2.length := ⟨_, rfl⟩
  have h6 := hR.six
  have hlen := hR.len
  rw [← hn] at hg o1
  rw [← hm] at hg o2
  have HAT := hid (fun (s : ByteArray) wy (hx : Ext wx wy) => tat_any t.1 s A n c wy hn.symm ((own_rd o1).1.keep hx) (by omega))
  obtain ⟨R, hRR⟩ : ∃ R, R = Tb.prj t.1 [] (Tb.bas l) := ⟨_, rfl⟩
  rw [← hRR]
  have HP0 := hid (show R = Tb.prj t.1 ((Tb.bas l).take 0) ((Tb.bas l).drop 0) from hRR)
  have HG := hid hg
  have HBW := hid hbw; have HGB := hid hgb
  have HNN := hid hn; have HM := hid hm; have HR := hid hR; have HLN := hid hl; have HRD := hid hr
  have HO1 := hid o1; have HO2 := hid o2; have HLM := hid hL; have HOK := hid hok
  have HN0 := hid hN
  have HB1 := hid (⟨hb1, hg1⟩ : h1 < base ∧ h1 ≠ g)
  have HNC := hid hnc
  have HNL := hid hnl
  have hnnI : (nn : Int) ≤ 140737488355328 := by omega
  have lgx := hg.lt
  have lhx := block_lt_of_cell hN
  simp only at lhx
  have n0 := hN
  clear ht hR hg hgb hbw o1 o2 hL hok hpw hn hm h6 hlen hN hb1 hg1 hl hr hnl hnc hRR
  go_enter Tryz.func41, Tryz.ntmps41
  go_wp2
  have F0 := hid (Blk.new wx 25 #[.slice none 0 0, .slice none 0 0])
  have E0 := hid (Ext.new (ext_refl wx) (.cells #[.slice none 0 0, .slice none 0 0] 25))
  have n0 := True.intro
  go_loopw [5, 6, 7, 10, 21, 24] (fun _ _ _ ii _ _ wr => ∃ k : Nat, k ≤ nn ∧ ii = .int .i64 k ∧ ∃ A' c' B' d' L', Hid (Blk wr wx.heap.size 25 #[.slice A' k c', .slice B' k d']) ∧ Hid (wr.ownsRow wx.heap.size 39 2 (.slice A' k c') k (ens (Tb.selC t ((Tb.bas l).take k)))) ∧ Hid (wr.ownsRow wx.heap.size 45 1 (.slice B' k d') k (rws' L')) ∧ Hid (L'.map (·.2) = Tb.selD t ((Tb.bas l).take k)) ∧ Hid (∀ x ∈ L', x ∈ L) ∧ Hid (Ext wx wr) ∧ Hid (R = Tb.prj t.1 ((Tb.bas l).take k) ((Tb.bas l).drop k)) ∧ Hid (((Tb.bas l).take k).Nodup ∧ ∀ n ∈ (Tb.bas l).take k, n ∈ t.1.map (·.1))) (fun _ _ _ ii _ _ _ => nn - (intOf ii).toNat)
  case atStart => exact ⟨0, Nat.zero_le _, rfl, none, 0, none, 0, [], F0, hid (World.ownsRow_nil _ _ _ _), hid (World.ownsRow_nil _ _ _ _), hid rfl, hid (fun x hx => absurd hx List.not_mem_nil), E0, HP0, hid ⟨List.nodup_nil, fun n hn => absurd hn List.not_mem_nil⟩⟩
  case round =>
    obtain ⟨k, hk, rfl, A', c', B', d', L', HF, Q1, Q2, HL', HR', HX, HI, HND⟩ := hrel
    by_cases hlt : k < nn
    · have hkl : k < l.length := by rw [HLN.out]; exact hlt
      have hkb : k < (Tb.bas l).length := by rw [Tb.bas_len]; exact hkl
      have hk6 : k ≤ 6 := by
        have := Tb.few HR.out HND.out.1 HND.out.2
        rw [List.length_take, Tb.bas_len, HLN.out] at this
        omega
      obtain ⟨b1, o1, e1, l1, c1⟩ := HRD.out.texts k hkl
      have s0 := ext_cell HX.out (c1 k hkl)
      have n0 := ext_cell HX.out HN0.out
      rw [← Tb.bas_get l k hkl] at s0
      have hI := HI.out
      rw [Tb.prj_here hkb] at hI
      have HTK := hid (List.take_succ_eq_append_getElem hkb)
      have HCT := hid (fun wy (hx : Ext wx wy) (hk0 : 0 < k) => Tryz.slices_Contains_string b1 o1 k nc ((Tb.bas l).take k) ((Tb.bas l)[k]) wy (by rw [List.length_take]; omega) (by omega) (fun j hj => by
        rw [List.length_take] at hj
        have hjl : j < l.length := by omega
        have := ext_cell hx (c1 j hjl)
        rw [this, List.getD_eq_getElem?_getD, List.getElem?_take, if_pos (by omega), List.getElem?_eq_getElem (by rw [Tb.bas_len]; exact hjl), Tb.bas_get l j hjl]; rfl))
      have HCE := hid (fun wy (_ : Ext wx wy) (hk0 : k = 0) => Tryz.slices_Contains_string_empty (some ⟨b1, o1, none⟩) nc ((Tb.bas l)[k]) wy)
      have HCC := hid (fun wy (hx : Ext wx wy) => show Calls Tryz.prog 43 #[.slice (some ⟨b1, o1, none⟩) k nc, .string (Tb.bas l)[k]] wy fun e w' => e = .returned (.bool (decide (∃ m ∈ (Tb.bas l).take k, m = (Tb.bas l)[k]))) ∧ w' = wy from by
        by_cases hk0 : k = 0
        · subst hk0
          refine Calls.mono (HCE.out wy hx rfl) ?_
          rintro e w' ⟨rfl, rfl⟩
          exact ⟨by simp, rfl⟩
        · refine Calls.mono (HCT.out wy hx (by omega)) ?_
          rintro e w' ⟨rfl, rfl⟩
          refine ⟨?_, rfl⟩
          rw [List.take_take, Nat.min_self]
          have : Lib.containsS ((Tb.bas l).take k) (Tb.bas l)[k] = decide (∃ m ∈ (Tb.bas l).take k, m = (Tb.bas l)[k]) := by
            rw [Bool.eq_iff_iff, Lib.containsS_iff, decide_eq_true_eq]
            exact ⟨fun h => ⟨_, h, rfl⟩, fun ⟨m, h, e⟩ => e ▸ h⟩
          rw [this])
      have HMEM := hid (Tb.at_name (n := (Tb.bas l)[k]) HR.out)
      have HIX := hid (Tb.ixc_neg t.1 (Tb.bas l)[k] 0)
      have hsl := sl_to (P := Tryz.prog) (t := 27) (e := 9) (m := 1) Tryz.underlying27 (by kernel_rfl) (some ⟨b1, o1, none⟩) nn nc .i64 k (by have := HNC.out; omega)
      have hltI : (k : Int) < (nn : Int) := by omega
      have HK6 := hid hk6
      have HATn := hid (fun wy (hx : Ext wx wy) => HAT.out (Tb.bas l)[k] wy hx)
      obtain ⟨nm, hnm⟩ : ∃ nm, nm = (Tb.bas l)[k] := ⟨_, rfl⟩
      rw [← hnm] at hI HTK HCC HMEM HIX HATn s0
      have he1 := hid e1
      clear c1 l1 HCT HCE hnm hk6 e1
      have e1 := he1.out
      subst e1
      have a0 := ext_cell HX.out (HG.out.cell 0)
      by_cases hneg : Tb.ixc t.1 nm 0 < 0
      · rw [if_pos hneg] at hI
        have HV := hid hI
        obtain ⟨x, hx⟩ : ∃ x, x = Tb.ixc t.1 nm 0 := ⟨_, rfl⟩
        rw [← hx] at HATn hneg
        clear hI hx
        go_wp2_with fail
        refine Calls.mono (HATn.out _ HX.out) ?_
        rintro e w2 ⟨rfl, hx⟩
        have X2 := hid (HX.out.then hx)
        clear hx a0 s0 n0
        go_wp2
        go_returns
        exact ⟨by rw [HV.out]; rfl, fun h => absurd (HV.out.symm.trans h) (by decide), (Chg.refl base g wx).ext HBW.out X2.out⟩
      · rw [if_neg hneg] at hI
        have hmem : nm ∈ t.1.map (·.1) := Classical.byContradiction fun h => hneg (HIX.out.2 h)
        obtain ⟨hak, hnme, hix⟩ := HMEM.out hmem
        rw [hix] at HATn
        have HMM := hid hmem
        obtain ⟨ak, hakk⟩ : ∃ ak, ak = Tb.at0 t nm := ⟨_, rfl⟩
        have hak1 : ak < t.1.length := by rw [hakk]; exact hak
        rw [← hakk] at HATn
        have hakI : (0 : Int) ≤ (ak : Int) := by omega
        have HAK := hid hakk
        have HAK1 := hid hak1
        clear hneg hmem hnme hak hix hakk hak1
        by_cases htw : ∃ m ∈ (Tb.bas l).take k, m = nm
        · rw [if_pos htw] at hI
          have HV := hid hI
          rw [decide_eq_true htw] at HCC
          clear hI htw
          go_wp2_with fail
          refine Calls.mono (HATn.out _ HX.out) ?_
          rintro e w2 ⟨rfl, hx⟩
          have X2 := hid (HX.out.then hx)
          clear hx a0 s0 n0
          have n0 := ext_cell X2.out HN0.out
          go_wp2_with fail
          refine Calls.mono (HCC.out _ X2.out) ?_
          rintro e w3 ⟨rfl, rfl⟩
          clear n0
          go_wp2
          go_returns
          exact ⟨by rw [HV.out]; rfl, fun h => absurd (HV.out.symm.trans h) (by decide), (Chg.refl base g wx).ext HBW.out X2.out⟩
        · rw [if_neg htw] at hI
          have HI2 := hid hI
          have HNT := hid htw
          rw [decide_eq_false htw] at HCC
          clear hI htw
          go_wp2_with fail
          refine Calls.mono (HATn.out _ HX.out) ?_
          rintro e w2 ⟨rfl, hx⟩
          have X2 := hid (HX.out.then hx)
          have D2 := hid hx
          clear hx a0 s0 n0
          have n0 := ext_cell X2.out HN0.out
          go_wp2_with fail
          refine Calls.mono (HCC.out _ X2.out) ?_
          rintro e w3 ⟨rfl, rfl⟩
          clear n0
          have F2 := hid (HF.out.keep D2.out)
          have S1 := hid (own_ext Q1.out D2.out)
          have S2 := hid (own_ext Q2.out D2.out)
          obtain ⟨b2, o2, e2, l2, c2⟩ := (own_rd HO1.out).1.ents ak HAK1.out
          have d0 := ext_cell X2.out (c2 ak HAK1.out).1
          have d1 := ext_cell X2.out (c2 ak HAK1.out).2
          have hgd : t.1.getD ak (ByteArray.empty, 0) = t.1[ak]'(HAK1.out) := by rw [List.getD_eq_getElem?_getD, List.getElem?_eq_getElem HAK1.out]; rfl
          have HSC := hid (show Tb.selC t ((Tb.bas l).take (k + 1)) = Tb.selC t ((Tb.bas l).take k) ++ [t.1[ak]'(HAK1.out)] by rw [HTK.out, Tb.selC_snoc, ← HAK.out, hgd])
          have hLl : L.length = m := by rw [HM.out, ← HLM.out, List.length_map]
          have hakm : ak < m := by have h1 := HAK1.out; have h2 := HR.out.len; have h3 := HM.out; omega
          have hakL : ak < L.length := by omega
          obtain ⟨b5, o5, e5, l5, c5⟩ := (own_rd HO2.out).1.rows ak hakL
          have r0 := c5 ak hakL
          have hgd2 : t.2.getD ak [] = L[ak].2 := by rw [← HLM.out, List.getD_eq_getElem?_getD, List.getElem?_map, List.getElem?_eq_getElem hakL]; rfl
          have HSD := hid (show Tb.selD t ((Tb.bas l).take (k + 1)) = Tb.selD t ((Tb.bas l).take k) ++ [L[ak].2] by rw [HTK.out, Tb.selD_snoc, ← HAK.out, hgd2])
          have HRL := hid (List.getElem_mem hakL)
          generalize t.1[ak] = ce at *
          obtain ⟨cs, ck⟩ := ce
          simp only at d0 d1
          generalize L[ak] = le at *
          obtain ⟨⟨la, ln, lq⟩, lz⟩ := le
          simp only at r0
          have hakn : (ak : Int) < (n : Int) := by have h1 := HAK1.out; have h2 := HNN.out; omega
          have hakmI : (ak : Int) < (m : Int) := by omega
          have he2 := hid e2
          have he5 := hid e5
          have R0 := hid r0
          clear c2 l2 c5 l5 e2 e5 hgd hgd2 hLl hakm hakL r0
          have e2 := he2.out
          have e5 := he5.out
          subst e2 e5
          have a0 := (HG.out.keep X2.out).cell 0
          have v0 := F2.out.cell 0
          have a0r := cell_regrown a0
          have v0r := cell_regrown v0
          have d0r := cell_regrown d0
          have d1r := cell_regrown d1
          go_upto_region 10 with fail
          refine wp_region_late [10, 12] [11] [(0, true), (1, true), (2, true), (3, true), (4, true), (5, true), (6, true), (7, true), (8, true), (9, false), (10, false), (11, true), (12, false)] (by kernel_rfl) (by kernel_rfl) (fun _ _ _ _ _ h => h) (by kernel_rfl) (by rfl) ?_
          simp only [List.filterMap_cons, List.filterMap_nil, List.getElem?_toArray, List.getElem?_cons_zero, List.getElem?_cons_succ, Option.map_some, List.contains_cons, List.contains_nil, Nat.reduceBEq, Bool.or_false, Bool.or_true]
          repeat ((first | refine wpL_val (by rfl) ?_ | refine wpL_pure (by rfl) ?_); intro K hK; go_big_quiet_op; go_big_quiet_on)
          refine wpL_do (by rfl) ?_
          intro K hK
          go_simp
          have J1 := hid (Ext.new (Ext.draw (ext_refl w3)) (.cells #[.string cs, .int .i64 ck] 39))
          refine hK _ _ J1.out ?_
          clear K hK
          refine wpL_late (by rfl) ?_
          intro K hK
          refine wp_app (.tmp 31) (.tmp 39) rowCo rfl _ k (ens (Tb.selC t ((Tb.bas l).take k))) rfl (own_ext S1.out J1.out) _ 1 (ens [(cs, ck)]) rfl (Src.rd Tryz.underlying22 _ 1 1 _ rfl (rd_lit rfl rfl) (ens_one _) (fun h => by cases h)) (by have := HK6.out; simp only [maxLen] at *; omega) (by have := HK6.out; omega) (Nat.le_trans X2.out.size J1.out.size) ?_
          intro v2 w8 hown8 hgrow hat hbel
          have E2 := own_ext S1.out J1.out
          have M1 := hid hown8
          have MB := hid (Blk.grw (F2.out.keep J1.out) hgrow (own_nblk E2 (F2.out.keep J1.out) (by decide)))
          have M2 := hid ((own_ext S2.out J1.out).kept hgrow (own_ne (own_ext S2.out J1.out) E2 (by decide)))
          have MX := hid (Below.trans (Ext.then X2.out J1.out) hbel)
          obtain ⟨A8, c8, rfl, _⟩ := Rd.owned hown8
          have q0 := MB.out.cell 0
          have f0 := MB.out.frozen 0
          clear hown8 hgrow hat hbel E2
          refine hK _ _ ?_
          clear K hK a0 a0r v0 v0r d0 d1 d0r d1r
          simp only [Act.put, List.setIfInBounds_toArray, List.set_cons_zero, List.set_cons_succ]
          repeat (refine wpL_pure (by rfl) ?_; intro K hK; go_big_quiet_op; go_big_quiet_on)
          refine wpL_late (by rfl) ?_
          intro K hK
          go_simp
          refine hK _ _ ?_
          clear K hK
          refine wpL_nil ?_
          have B9 := hid ((MB.out.set 0 (.slice A8 (k + 1) c8)).cast (cs' := #[.slice A8 (k + 1) c8, .slice B' k d']) (by simp))
          have V1 := hid (own_put M1.out (p := ⟨wx.heap.size, 0, none⟩) (own_nblk M1.out MB.out (by decide)) (.slice A8 (k + 1) c8))
          have V2 := hid (own_put M2.out (p := ⟨wx.heap.size, 0, none⟩) (own_nblk M2.out MB.out (by decide)) (.slice A8 (k + 1) c8))
          have VX := hid (Below.setCell MX.out (p := ⟨wx.heap.size, 0, none⟩) (Nat.le_refl _) (.slice A8 (k + 1) c8))
          clear q0 f0
          generalize w8.setCell ⟨wx.heap.size, 0, none⟩ (.slice A8 (k + 1) c8) = wt at *
          have a1 := (HG.out.keep VX.out).cell 1
          have v1 := B9.out.cell 1
          have r1 := ext_cell VX.out R0.out
          have a1r := cell_regrown a1
          have v1r := cell_regrown v1
          have r1r := cell_regrown r1
          go_upto_region 11 with fail
          refine wp_region_late [10, 12] [11] [(0, true), (1, true), (2, true), (3, true), (4, true), (5, true), (6, true), (7, true), (8, true), (9, false), (10, false), (11, true), (12, false)] (by kernel_rfl) (by kernel_rfl) (fun _ _ _ _ _ h => h) (by kernel_rfl) (by rfl) ?_
          simp only [List.filterMap_cons, List.filterMap_nil, List.getElem?_toArray, List.getElem?_cons_zero, List.getElem?_cons_succ, Option.map_some, List.contains_cons, List.contains_nil, Nat.reduceBEq, Bool.or_false, Bool.or_true]
          repeat ((first | refine wpL_val (by rfl) ?_ | refine wpL_pure (by rfl) ?_); intro K hK; go_big_quiet_op; go_big_quiet_on)
          refine wpL_do (by rfl) ?_
          intro K hK
          go_simp
          have J2 := hid (Ext.new (Ext.draw (ext_refl wt)) (.cells #[.slice la ln lq] 45))
          refine hK _ _ J2.out ?_
          clear K hK
          refine wpL_late (by rfl) ?_
          intro K hK
          refine wp_app (.tmp 43) (.tmp 51) rowRo rfl _ k (rws' L') rfl (own_ext V2.out J2.out) _ 1 (rws' [((la, ln, lq), lz)]) rfl (Src.rd Tryz.underlying23 _ 1 1 _ rfl (rd_lit rfl rfl) (rws_one _) (fun h => by cases h)) (by have := HK6.out; simp only [maxLen] at *; omega) (by have := HK6.out; omega) (Nat.le_trans VX.out.size J2.out.size) ?_
          intro v2 w7 hown8 hgrow hat hbel
          have E2 := own_ext V2.out J2.out
          have K2 := hid hown8
          have KB := hid (Blk.grw (B9.out.keep J2.out) hgrow (own_nblk E2 (B9.out.keep J2.out) (by decide)))
          have K1 := hid ((own_ext V1.out J2.out).kept hgrow (own_ne (own_ext V1.out J2.out) E2 (by decide)))
          have KX := hid (Below.trans (Ext.then VX.out J2.out) hbel)
          obtain ⟨B8, d8, rfl, _⟩ := Rd.owned hown8
          have q1 := KB.out.cell 1
          have f1 := KB.out.frozen 1
          clear hown8 hgrow hat hbel E2
          refine hK _ _ ?_
          clear K hK a1 a1r v1 v1r r1 r1r
          simp only [Act.put, List.setIfInBounds_toArray, List.set_cons_zero, List.set_cons_succ]
          repeat (refine wpL_pure (by rfl) ?_; intro K hK; go_big_quiet_op; go_big_quiet_on)
          refine wpL_late (by rfl) ?_
          intro K hK
          go_simp
          refine hK _ _ ?_
          clear K hK
          refine wpL_nil ?_
          go_wp2
          go_roundw
          case rel =>
            refine ⟨k + 1, by omega, by go_num, A8, c8, B8, d8, L' ++ [((la, ln, lq), lz)], hid ((KB.out.set 1 (.slice B8 (k + 1) d8)).cast (by simp)), hid ?_, hid ?_, hid ?_, hid ?_, hid ?_, HI2, hid ?_⟩
            · rw [HSC.out, ens_app]; exact own_put K1.out (p := ⟨wx.heap.size, 1, none⟩) (own_nblk K1.out KB.out (by decide)) _
            · rw [rws_app]; exact own_put K2.out (p := ⟨wx.heap.size, 1, none⟩) (own_nblk K2.out KB.out (by decide)) _
            · rw [HSD.out, List.map_append, HL'.out]; rfl
            · intro x hx
              rcases List.mem_append.1 hx with hx | hx
              · exact HR'.out x hx
              · simp only [List.mem_cons, List.not_mem_nil, or_false] at hx
                rw [hx]; exact HRL.out
            · exact Below.setCell KX.out (p := ⟨wx.heap.size, 1, none⟩) (Nat.le_refl _) _
            · rw [HTK.out]
              refine ⟨List.nodup_append.2 ⟨HND.out.1, by simp, fun a ha b hb e => ?_⟩, fun x hx => ?_⟩
              · simp only [List.mem_cons, List.not_mem_nil, or_false] at hb
                exact HNT.out ⟨a, ha, e.trans hb⟩
              · rcases List.mem_append.1 hx with hx | hx
                · exact HND.out.2 x hx
                · simp only [List.mem_cons, List.not_mem_nil, or_false] at hx
                  rw [hx]; exact HMM.out
          case measure => simp [intOf] <;> omega
    · obtain rfl : nn = k := by omega
      have hfull : (Tb.bas l).take nn = Tb.bas l := List.take_of_length_le (by rw [Tb.bas_len, HLN.out]; exact Nat.le_refl _)
      rw [hfull] at Q1 HL' HND
      have HV := hid (show R = 0 by rw [HI.out, List.drop_of_length_le (by rw [Tb.bas_len, HLN.out]; exact Nat.le_refl _)]; rfl)
      have a0 := HF.out.cell 0
      have a1 := HF.out.cell 1
      have GX := hid (HG.out.keep HX.out)
      have q0 := GX.out.cell 0
      have q1 := GX.out.cell 1
      have f0 := GX.out.frozen 0
      have f1 := GX.out.frozen 1
      clear hfull
      go_wp2
      go_returns
      have hp : ∀ {e : TypeId} {size : Nat} {u : Value} {q : Nat} {xs : List Value}, wr.ownsRow base e size u q xs → e ≠ 25 → ((wr.setCell ⟨g, 0, none⟩ (.slice A' nn c')).setCell ⟨g, 1, none⟩ (.slice B' nn d')).ownsRow base e size u q xs := fun h he => own_put (own_put h (p := ⟨g, 0, none⟩) (own_nblk h GX.out he) _) (p := ⟨g, 1, none⟩) (own_nblk h GX.out he) _
      refine ⟨by rw [HV.out]; rfl, fun _ => TbG.mk' (t := Tb.projT t (Tb.bas l)) (by simp only [Tb.projT, List.length_map, Tb.bas_len]; exact HLN.out.symm) (by simp only [Tb.projT, List.length_map, Tb.bas_len]; exact HLN.out.symm) (((GX.out.set 0 (.slice A' nn c')).set 1 (.slice B' nn d')).cast (cs' := #[.slice A' nn c', .slice B' nn d']) (by simp)) (hp (own_low' Q1.out HBW.out) (by decide)) (hp (own_low' Q2.out HBW.out) (by decide)) HL'.out (fun x hx => hp ((HOK.out x (HR'.out x hx)).ext HX.out) (by decide)), (((Chg.refl base g wx).ext HBW.out HX.out).put ⟨g, 0, none⟩ (.inl rfl) _).put ⟨g, 1, none⟩ (.inl rfl) _⟩
end Go.Proofs.YtolhifnlahllnaaGreatDoor
end
