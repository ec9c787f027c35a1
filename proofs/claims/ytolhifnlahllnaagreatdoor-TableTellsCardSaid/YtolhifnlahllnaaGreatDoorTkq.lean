/- Tables: Slice, Append, Project, Add, Drop, Rename, Redact: walks (printed by gen_tkn.py). Tables: SameTable: walk. Tables: the law's helpers; birds: walks. Tables: what must be in any case: tableBegun: walk (printed by gen_tkq.py). -/
import Derived.Test.YtolhifnlahllnaaGreatDoorTka
import Derived.Test.YtolhifnlahllnaaGreatDoorTkh
import Derived.Test.YtolhifnlahllnaaGreatDoorTkl
import Derived.Test.YtolhifnlahllnaaGreatDoorScl
import Derived.Test.YtolhifnlahllnaaGreatDoorTbe
import Derived.Test.YtolhifnlahllnaaGreatDoorGhx
section
namespace Hy.Tb
theorem renE_eq (t : Tab) (s n : ByteArray) : (if tbck t ≠ 0 then tbck t else if ixc t.1 s 0 < 0 then 5 else renW t n (at0 t s)) = renE t s n := by
  unfold renE renW
  by_cases h : ixc t.1 s 0 < 0
  · rw [if_pos h, if_pos h]
  · rw [if_neg h, if_neg h]
    have : ((at0 t s : Nat) : Int) = ixc t.1 s 0 := by unfold at0; omega
    rw [this]
end Hy.Tb
namespace Go.Proofs.YtolhifnlahllnaaGreatDoor
open Go.RowKit Hy
set_option maxHeartbeats 3200000 in
set_option maxRecDepth 100000 in
theorem slice_any (t : Tb.Tab) (x y : Int) (v : Value) (w : World) (hv : TbV w v t) (hb : TbB t) :
    Calls Tryz.prog 9 #[v, .int .i64 x, .int .i64 y] w fun e w' => ∃ v', e = .returned (.tuple #[v', .int .i64 ((Tb.sliceE t x y : Nat) : Int)]) ∧ TbL w' w.heap.size v' (Tb.res (Tb.sliceE t x y) (Tb.sliceT t x y)) ∧ Ext w w' := by
  have HV := hid hv
  have HB := hid hb
  obtain ⟨A, n, c, B, m, d, rfl⟩ := hv.shape
  obtain ⟨R, hR⟩ : ∃ R, R = Tb.sliceE t x y := ⟨_, rfl⟩
  rw [← hR]
  have HR := hid hR
  have HCALL := hid (fun wz (XZ : Ext w wz) (BX1 : Blk wz (w.heap.size + 1) 3 #[.int .i64 x]) (BX2 : Blk wz (w.heap.size + 1 + 1) 3 #[.int .i64 y]) => changed_slice t (Tb.sliceT t x y) (if x < 0 ∨ y < 0 then 3 else 0) (w.heap.size + 1) (w.heap.size + 1 + 1) _ wz (hv.keep XZ) hb right_len (fun h0 base g wx hx hg hgb hbw ht => sliceC_any t x y base g (w.heap.size + 1) (w.heap.size + 1 + 1) wx ht hbw ((Tb.right_iff t).1 h0) (ext_cell hx (BX1.cell 0)) (ext_cell hx (BX2.cell 0)) (by have := BX1.lt; omega) (by have := BX2.lt; omega) (by have := BX1.lt; omega) (by have := BX2.lt; omega)))
  rw [show (if Tb.tbck t ≠ 0 then Tb.tbck t else if x < 0 ∨ y < 0 then 3 else 0) = R by rw [hR]; unfold Tb.sliceE; rfl] at HCALL
  obtain ⟨TT, hTT⟩ : ∃ TT, TT = Tb.sliceT t x y := ⟨_, rfl⟩
  rw [← hTT] at HCALL ⊢
  clear hv hb hR hTT
  go_enter Tryz.func9, Tryz.ntmps9
  go_upto_region 1 with fail
  refine wp_gen (fun w' => Ext w w' ∧ Blk w' (w.heap.size) 25 #[.slice A n c, .slice B m d] ∧ Blk w' (w.heap.size + 1) 3 #[.int .i64 x] ∧ Blk w' (w.heap.size + 1 + 1) 3 #[.int .i64 y] ∧ Blk w' (w.heap.size + 1 + 1 + 1) 25 #[.slice none 0 0, .slice none 0 0]) ⟨(((((ext_refl _).new _).new _).new _).new _), ((((blk_at _ _ (by simp)).alloc _).alloc _).alloc _), (((blk_at _ _ (by simp)).alloc _).alloc _), ((blk_at _ _ (by simp)).alloc _), (blk_at _ _ (by simp))⟩ ?_
  rintro wz ⟨XZ0, B0, B1, B2, B3⟩
  have XZ : Hid (Ext w wz) := hid XZ0
  have p0 := B0.cell 0
  have p1 := B0.cell 1
  have HRB := hid B3
  have HL2 := hid HRB.out.lt
  have HX1 := hid B1
  have HX2 := hid B2
  clear XZ0 B0 B1 B2 B3
  go_wp2_with fail
  refine Calls.mono (HCALL.out _ XZ.out HX1.out HX2.out) ?_
  rintro e w1 ⟨v', rfl, hl, hx⟩
  obtain ⟨A5, n5, c5, D5, m5, d5, rfl⟩ := hl.V.shape
  have HL := hid hl
  have X1 := hid (XZ.out.then hx)
  have R4 := hid (HRB.out.keep hx)
  clear p0 p1 hl hx
  have q0 := R4.out.cell 0
  have q1 := R4.out.cell 1
  have f0 := R4.out.frozen 0
  have f1 := R4.out.frozen 1
  go_wp2
  have HBF := hid (((R4.out.set 0 (.slice A5 n5 c5)).set 1 (.slice D5 m5 d5)).cast (cs' := #[.slice A5 n5 c5, .slice D5 m5 d5]) (by simp))
  have XF := hid (Ext.put (Ext.put X1.out (p := ⟨w.heap.size + 1 + 1 + 1, 0, none⟩) (by simp only; omega) (.slice A5 n5 c5)) (p := ⟨w.heap.size + 1 + 1 + 1, 1, none⟩) (by simp only; omega) (.slice D5 m5 d5))
  refine bodyPost_ret (results_blk2 rfl _ _ (w.heap.size + 1 + 1 + 1) 25 _ _ rfl HBF.out Tryz.underlying25 rfl (by kernel_rfl)) rfl ?_
  exact ⟨_, rfl, ((HL.out.put (p := ⟨w.heap.size + 1 + 1 + 1, 0, none⟩) HL2.out _).put (p := ⟨w.heap.size + 1 + 1 + 1, 1, none⟩) HL2.out _).low XZ.out.size, XF.out⟩
set_option maxHeartbeats 3200000 in
set_option maxRecDepth 100000 in
theorem app_any (t : Tb.Tab) (s : Tb.Tab) (u : Value) (v : Value) (w : World) (hv : TbV w v t) (hb : TbB t) (hs : TbV w u s) (hbs : TbB s) :
    Calls Tryz.prog 10 #[v, u] w fun e w' => ∃ v', e = .returned (.tuple #[v', .int .i64 ((Tb.appE t s : Nat) : Int)]) ∧ TbL w' w.heap.size v' (Tb.res (Tb.appE t s) (Tb.appT t s)) ∧ Ext w w' := by
  have HV := hid hv
  have HB := hid hb
  obtain ⟨A, n, c, B, m, d, rfl⟩ := hv.shape
  obtain ⟨A2, n2, c2, B2, m2, d2, rfl⟩ := hs.shape
  obtain ⟨R, hR⟩ : ∃ R, R = Tb.appE t s := ⟨_, rfl⟩
  rw [← hR]
  have HR := hid hR
  have HCALL := hid (fun wz (XZ : Ext w wz) (BX1 : Blk wz (w.heap.size + 1) 25 #[.slice A2 n2 c2, .slice B2 m2 d2]) => changed_app t (Tb.appT t s) (Tb.appW t s) (w.heap.size + 1) _ wz (hv.keep XZ) hb right_len (fun h0 base g wx hx hg hgb hbw ht => appC_any t s base g (w.heap.size + 1) wz wx A2 B2 n2 c2 m2 d2 ht hbw ((Tb.right_iff t).1 h0) hb hx hg (by omega) (hs.keep XZ) hbs BX1))
  rw [show (if Tb.tbck t ≠ 0 then Tb.tbck t else Tb.appW t s) = R by rw [hR]; unfold Tb.appE Tb.appW; rfl] at HCALL
  obtain ⟨TT, hTT⟩ : ∃ TT, TT = Tb.appT t s := ⟨_, rfl⟩
  rw [← hTT] at HCALL ⊢
  clear hv hb hR hTT hs hbs
  go_enter Tryz.func10, Tryz.ntmps10
  go_upto_region 1 with fail
  refine wp_gen (fun w' => Ext w w' ∧ Blk w' (w.heap.size) 25 #[.slice A n c, .slice B m d] ∧ Blk w' (w.heap.size + 1) 25 #[.slice A2 n2 c2, .slice B2 m2 d2] ∧ Blk w' (w.heap.size + 1 + 1) 25 #[.slice none 0 0, .slice none 0 0]) ⟨((((ext_refl _).new _).new _).new _), (((blk_at _ _ (by simp)).alloc _).alloc _), ((blk_at _ _ (by simp)).alloc _), (blk_at _ _ (by simp))⟩ ?_
  rintro wz ⟨XZ0, B0, B1, B2⟩
  have XZ : Hid (Ext w wz) := hid XZ0
  have p0 := B0.cell 0
  have p1 := B0.cell 1
  have HRB := hid B2
  have HL2 := hid HRB.out.lt
  have HX1 := hid B1
  clear XZ0 B0 B1 B2
  go_wp2_with fail
  refine Calls.mono (HCALL.out _ XZ.out HX1.out) ?_
  rintro e w1 ⟨v', rfl, hl, hx⟩
  obtain ⟨A5, n5, c5, D5, m5, d5, rfl⟩ := hl.V.shape
  have HL := hid hl
  have X1 := hid (XZ.out.then hx)
  have R4 := hid (HRB.out.keep hx)
  clear p0 p1 hl hx
  have q0 := R4.out.cell 0
  have q1 := R4.out.cell 1
  have f0 := R4.out.frozen 0
  have f1 := R4.out.frozen 1
  go_wp2
  have HBF := hid (((R4.out.set 0 (.slice A5 n5 c5)).set 1 (.slice D5 m5 d5)).cast (cs' := #[.slice A5 n5 c5, .slice D5 m5 d5]) (by simp))
  have XF := hid (Ext.put (Ext.put X1.out (p := ⟨w.heap.size + 1 + 1, 0, none⟩) (by simp only; omega) (.slice A5 n5 c5)) (p := ⟨w.heap.size + 1 + 1, 1, none⟩) (by simp only; omega) (.slice D5 m5 d5))
  refine bodyPost_ret (results_blk2 rfl _ _ (w.heap.size + 1 + 1) 25 _ _ rfl HBF.out Tryz.underlying25 rfl (by kernel_rfl)) rfl ?_
  exact ⟨_, rfl, ((HL.out.put (p := ⟨w.heap.size + 1 + 1, 0, none⟩) HL2.out _).put (p := ⟨w.heap.size + 1 + 1, 1, none⟩) HL2.out _).low XZ.out.size, XF.out⟩
set_option maxHeartbeats 3200000 in
set_option maxRecDepth 100000 in
theorem proj_any (t : Tb.Tab) (l : List (List UInt8)) (N : Option Addr) (nn nc : Nat) (v : Value) (w : World) (hv : TbV w v t) (hb : TbB t) (hl : l.length = nn) (hr : Rd w N (txs l)) (hnl : nn ≤ 140737488355328) (hnc : nn ≤ nc) :
    Calls Tryz.prog 8 #[v, .slice N nn nc] w fun e w' => ∃ v', e = .returned (.tuple #[v', .int .i64 ((Tb.projE t (Tb.bas l) : Nat) : Int)]) ∧ TbL w' w.heap.size v' (Tb.res (Tb.projE t (Tb.bas l)) (Tb.projT t (Tb.bas l))) ∧ Ext w w' := by
  have HV := hid hv
  have HB := hid hb
  obtain ⟨A, n, c, B, m, d, rfl⟩ := hv.shape
  obtain ⟨R, hR⟩ : ∃ R, R = Tb.projE t (Tb.bas l) := ⟨_, rfl⟩
  rw [← hR]
  have HR := hid hR
  have HCALL := hid (fun wz (XZ : Ext w wz) (BX1 : Blk wz (w.heap.size + 1) 27 #[.slice N nn nc]) => changed_proj t (Tb.projT t (Tb.bas l)) (Tb.prj t.1 [] (Tb.bas l)) (w.heap.size + 1) _ wz (hv.keep XZ) hb right_len (fun h0 base g wx hx hg hgb hbw ht => projC_any t l base g (w.heap.size + 1) N nn nc wx ht hbw ((Tb.right_iff t).1 h0) (ext_cell hx (BX1.cell 0)) (by have := BX1.lt; omega) (by have := BX1.lt; omega) hl (hr.keep (XZ.then hx)) hnl hnc))
  rw [show (if Tb.tbck t ≠ 0 then Tb.tbck t else Tb.prj t.1 [] (Tb.bas l)) = R by rw [hR]; unfold Tb.projE; rfl] at HCALL
  obtain ⟨TT, hTT⟩ : ∃ TT, TT = Tb.projT t (Tb.bas l) := ⟨_, rfl⟩
  rw [← hTT] at HCALL ⊢
  clear hv hb hR hTT hl hr hnl hnc
  go_enter Tryz.func8, Tryz.ntmps8
  go_upto_region 1 with fail
  refine wp_gen (fun w' => Ext w w' ∧ Blk w' (w.heap.size) 25 #[.slice A n c, .slice B m d] ∧ Blk w' (w.heap.size + 1) 27 #[.slice N nn nc] ∧ Blk w' (w.heap.size + 1 + 1) 25 #[.slice none 0 0, .slice none 0 0]) ⟨((((ext_refl _).new _).new _).new _), (((blk_at _ _ (by simp)).alloc _).alloc _), ((blk_at _ _ (by simp)).alloc _), (blk_at _ _ (by simp))⟩ ?_
  rintro wz ⟨XZ0, B0, B1, B2⟩
  have XZ : Hid (Ext w wz) := hid XZ0
  have p0 := B0.cell 0
  have p1 := B0.cell 1
  have HRB := hid B2
  have HL2 := hid HRB.out.lt
  have HX1 := hid B1
  clear XZ0 B0 B1 B2
  go_wp2_with fail
  refine Calls.mono (HCALL.out _ XZ.out HX1.out) ?_
  rintro e w1 ⟨v', rfl, hl, hx⟩
  obtain ⟨A5, n5, c5, D5, m5, d5, rfl⟩ := hl.V.shape
  have HL := hid hl
  have X1 := hid (XZ.out.then hx)
  have R4 := hid (HRB.out.keep hx)
  clear p0 p1 hl hx
  have q0 := R4.out.cell 0
  have q1 := R4.out.cell 1
  have f0 := R4.out.frozen 0
  have f1 := R4.out.frozen 1
  go_wp2
  have HBF := hid (((R4.out.set 0 (.slice A5 n5 c5)).set 1 (.slice D5 m5 d5)).cast (cs' := #[.slice A5 n5 c5, .slice D5 m5 d5]) (by simp))
  have XF := hid (Ext.put (Ext.put X1.out (p := ⟨w.heap.size + 1 + 1, 0, none⟩) (by simp only; omega) (.slice A5 n5 c5)) (p := ⟨w.heap.size + 1 + 1, 1, none⟩) (by simp only; omega) (.slice D5 m5 d5))
  refine bodyPost_ret (results_blk2 rfl _ _ (w.heap.size + 1 + 1) 25 _ _ rfl HBF.out Tryz.underlying25 rfl (by kernel_rfl)) rfl ?_
  exact ⟨_, rfl, ((HL.out.put (p := ⟨w.heap.size + 1 + 1, 0, none⟩) HL2.out _).put (p := ⟨w.heap.size + 1 + 1, 1, none⟩) HL2.out _).low XZ.out.size, XF.out⟩
set_option maxHeartbeats 3200000 in
set_option maxRecDepth 100000 in
theorem add_any (t : Tb.Tab) (cs : ByteArray) (ck xk : Int) (xn : Nat) (xs : ByteArray) (v : Value) (w : World) (hv : TbV w v t) (hb : TbB t) (hsz : cs.size ≤ 140737488355328) :
    Calls Tryz.prog 20 #[v, .agg #[.string cs, .int .i64 ck], .agg #[.int .i64 xk, .int .u64 (xn : Nat), .string xs]] w fun e w' => ∃ v', e = .returned (.tuple #[v', .int .i64 ((Tb.addE t (cs, ck) (xk, xn, xs) : Nat) : Int)]) ∧ TbL w' w.heap.size v' (Tb.res (Tb.addE t (cs, ck) (xk, xn, xs)) (Tb.addT t (cs, ck) (xk, xn, xs))) ∧ Ext w w' := by
  have HV := hid hv
  have HB := hid hb
  obtain ⟨A, n, c, B, m, d, rfl⟩ := hv.shape
  obtain ⟨R, hR⟩ : ∃ R, R = Tb.addE t (cs, ck) (xk, xn, xs) := ⟨_, rfl⟩
  rw [← hR]
  have HR := hid hR
  have HCALL := hid (fun wz (XZ : Ext w wz) (BX1 : Blk wz (w.heap.size + 1) 39 #[.string cs, .int .i64 ck]) (BX2 : Blk wz (w.heap.size + 1 + 1) 42 #[.int .i64 xk, .int .u64 (xn : Nat), .string xs]) => changed_add t (Tb.addT t (cs, ck) (xk, xn, xs)) (Tb.addW t (cs, ck) (xk, xn, xs)) (w.heap.size + 1) (w.heap.size + 1 + 1) _ wz (hv.keep XZ) hb right_len (fun h0 base g wx hx hg hgb hbw ht => addC_any t cs ck xk xn xs base g (w.heap.size + 1) (w.heap.size + 1 + 1) wx ht hbw ((Tb.right_iff t).1 h0) hb (ext_cell hx (BX1.cell 0)) (ext_cell hx (BX1.cell 1)) (ext_cell hx (BX2.cell 0)) (ext_cell hx (BX2.cell 1)) (ext_cell hx (BX2.cell 2)) (by have := BX1.lt; omega) (by have := BX1.lt; omega) hsz))
  rw [show (if Tb.tbck t ≠ 0 then Tb.tbck t else Tb.addW t (cs, ck) (xk, xn, xs)) = R by rw [hR]; unfold Tb.addE Tb.addW; rfl] at HCALL
  obtain ⟨TT, hTT⟩ : ∃ TT, TT = Tb.addT t (cs, ck) (xk, xn, xs) := ⟨_, rfl⟩
  rw [← hTT] at HCALL ⊢
  clear hv hb hR hTT hsz
  go_enter Tryz.func20, Tryz.ntmps20
  go_upto_region 1 with fail
  refine wp_gen (fun w' => Ext w w' ∧ Blk w' (w.heap.size) 25 #[.slice A n c, .slice B m d] ∧ Blk w' (w.heap.size + 1) 39 #[.string cs, .int .i64 ck] ∧ Blk w' (w.heap.size + 1 + 1) 42 #[.int .i64 xk, .int .u64 (xn : Nat), .string xs] ∧ Blk w' (w.heap.size + 1 + 1 + 1) 25 #[.slice none 0 0, .slice none 0 0]) ⟨(((((ext_refl _).new _).new _).new _).new _), ((((blk_at _ _ (by simp)).alloc _).alloc _).alloc _), (((blk_at _ _ (by simp)).alloc _).alloc _), ((blk_at _ _ (by simp)).alloc _), (blk_at _ _ (by simp))⟩ ?_
  rintro wz ⟨XZ0, B0, B1, B2, B3⟩
  have XZ : Hid (Ext w wz) := hid XZ0
  have p0 := B0.cell 0
  have p1 := B0.cell 1
  have HRB := hid B3
  have HL2 := hid HRB.out.lt
  have HX1 := hid B1
  have HX2 := hid B2
  clear XZ0 B0 B1 B2 B3
  go_wp2_with fail
  refine Calls.mono (HCALL.out _ XZ.out HX1.out HX2.out) ?_
  rintro e w1 ⟨v', rfl, hl, hx⟩
  obtain ⟨A5, n5, c5, D5, m5, d5, rfl⟩ := hl.V.shape
  have HL := hid hl
  have X1 := hid (XZ.out.then hx)
  have R4 := hid (HRB.out.keep hx)
  clear p0 p1 hl hx
  have q0 := R4.out.cell 0
  have q1 := R4.out.cell 1
  have f0 := R4.out.frozen 0
  have f1 := R4.out.frozen 1
  go_wp2
  have HBF := hid (((R4.out.set 0 (.slice A5 n5 c5)).set 1 (.slice D5 m5 d5)).cast (cs' := #[.slice A5 n5 c5, .slice D5 m5 d5]) (by simp))
  have XF := hid (Ext.put (Ext.put X1.out (p := ⟨w.heap.size + 1 + 1 + 1, 0, none⟩) (by simp only; omega) (.slice A5 n5 c5)) (p := ⟨w.heap.size + 1 + 1 + 1, 1, none⟩) (by simp only; omega) (.slice D5 m5 d5))
  refine bodyPost_ret (results_blk2 rfl _ _ (w.heap.size + 1 + 1 + 1) 25 _ _ rfl HBF.out Tryz.underlying25 rfl (by kernel_rfl)) rfl ?_
  exact ⟨_, rfl, ((HL.out.put (p := ⟨w.heap.size + 1 + 1 + 1, 0, none⟩) HL2.out _).put (p := ⟨w.heap.size + 1 + 1 + 1, 1, none⟩) HL2.out _).low XZ.out.size, XF.out⟩
set_option maxHeartbeats 3200000 in
set_option maxRecDepth 100000 in
theorem drop_any (t : Tb.Tab) (s : ByteArray) (v : Value) (w : World) (hv : TbV w v t) (hb : TbB t) :
    Calls Tryz.prog 21 #[v, .string s] w fun e w' => ∃ v', e = .returned (.tuple #[v', .int .i64 ((Tb.dropE t s : Nat) : Int)]) ∧ TbL w' w.heap.size v' (Tb.res (Tb.dropE t s) (Tb.dropT t s)) ∧ Ext w w' := by
  have HV := hid hv
  have HB := hid hb
  obtain ⟨A, n, c, B, m, d, rfl⟩ := hv.shape
  obtain ⟨R, hR⟩ : ∃ R, R = Tb.dropE t s := ⟨_, rfl⟩
  rw [← hR]
  have HR := hid hR
  have HCALL := hid (fun wz (XZ : Ext w wz)  => found_drop t (Tb.dropT t s) s 0 _ wz (hv.keep XZ) hb (fun hm hR base g wy hx hg hgb hbw ht => dropC_any t (Tb.at0 t s) base g wy ht hbw hR (Tb.at_name hR hm).1))
  rw [show (if Tb.tbck t ≠ 0 then Tb.tbck t else if Tb.ixc t.1 s 0 < 0 then 5 else 0) = R by rw [hR]; unfold Tb.dropE; rfl] at HCALL
  obtain ⟨TT, hTT⟩ : ∃ TT, TT = Tb.dropT t s := ⟨_, rfl⟩
  rw [← hTT] at HCALL ⊢
  clear hv hb hR hTT
  go_enter Tryz.func21, Tryz.ntmps21
  go_upto_region 1 with fail
  refine wp_gen (fun w' => Ext w w' ∧ Blk w' (w.heap.size) 25 #[.slice A n c, .slice B m d] ∧ Blk w' (w.heap.size + 1) 25 #[.slice none 0 0, .slice none 0 0]) ⟨(((ext_refl _).new _).new _), ((blk_at _ _ (by simp)).alloc _), (blk_at _ _ (by simp))⟩ ?_
  rintro wz ⟨XZ0, B0, B1⟩
  have XZ : Hid (Ext w wz) := hid XZ0
  have p0 := B0.cell 0
  have p1 := B0.cell 1
  have HRB := hid B1
  have HL2 := hid HRB.out.lt
  clear XZ0 B0 B1
  go_wp2_with fail
  refine Calls.mono (HCALL.out _ XZ.out ) ?_
  rintro e w1 ⟨v', rfl, hl, hx⟩
  obtain ⟨A5, n5, c5, D5, m5, d5, rfl⟩ := hl.V.shape
  have HL := hid hl
  have X1 := hid (XZ.out.then hx)
  have R4 := hid (HRB.out.keep hx)
  clear p0 p1 hl hx
  have q0 := R4.out.cell 0
  have q1 := R4.out.cell 1
  have f0 := R4.out.frozen 0
  have f1 := R4.out.frozen 1
  go_wp2
  have HBF := hid (((R4.out.set 0 (.slice A5 n5 c5)).set 1 (.slice D5 m5 d5)).cast (cs' := #[.slice A5 n5 c5, .slice D5 m5 d5]) (by simp))
  have XF := hid (Ext.put (Ext.put X1.out (p := ⟨w.heap.size + 1, 0, none⟩) (by simp only; omega) (.slice A5 n5 c5)) (p := ⟨w.heap.size + 1, 1, none⟩) (by simp only; omega) (.slice D5 m5 d5))
  refine bodyPost_ret (results_blk2 rfl _ _ (w.heap.size + 1) 25 _ _ rfl HBF.out Tryz.underlying25 rfl (by kernel_rfl)) rfl ?_
  exact ⟨_, rfl, ((HL.out.put (p := ⟨w.heap.size + 1, 0, none⟩) HL2.out _).put (p := ⟨w.heap.size + 1, 1, none⟩) HL2.out _).low XZ.out.size, XF.out⟩
set_option maxHeartbeats 3200000 in
set_option maxRecDepth 100000 in
theorem ren_any (t : Tb.Tab) (s n2 : ByteArray) (v : Value) (w : World) (hv : TbV w v t) (hb : TbB t) (hsz : n2.size ≤ 140737488355328) :
    Calls Tryz.prog 22 #[v, .string s, .string n2] w fun e w' => ∃ v', e = .returned (.tuple #[v', .int .i64 ((Tb.renE t s n2 : Nat) : Int)]) ∧ TbL w' w.heap.size v' (Tb.res (Tb.renE t s n2) (Tb.renT t s n2)) ∧ Ext w w' := by
  have HV := hid hv
  have HB := hid hb
  obtain ⟨A, n, c, B, m, d, rfl⟩ := hv.shape
  obtain ⟨R, hR⟩ : ∃ R, R = Tb.renE t s n2 := ⟨_, rfl⟩
  rw [← hR]
  have HR := hid hR
  have HCALL := hid (fun wz (XZ : Ext w wz) (BX1 : Blk wz (w.heap.size + 1) 9 #[.string n2]) => found_ren t (Tb.renT t s n2) s (Tb.renW t n2 (Tb.at0 t s)) (w.heap.size + 1) _ wz (hv.keep XZ) hb (fun hm hR base g wy hx hg hgb hbw ht => renC_any t n2 (Tb.at0 t s) base g (w.heap.size + 1) wy ht hbw hR (Tb.at_name hR hm).1 (ext_cell hx (BX1.cell 0)) hsz))
  rw [show (if Tb.tbck t ≠ 0 then Tb.tbck t else if Tb.ixc t.1 s 0 < 0 then 5 else Tb.renW t n2 (Tb.at0 t s)) = R by rw [hR]; exact Tb.renE_eq t s n2] at HCALL
  obtain ⟨TT, hTT⟩ : ∃ TT, TT = Tb.renT t s n2 := ⟨_, rfl⟩
  rw [← hTT] at HCALL ⊢
  clear hv hb hR hTT hsz
  go_enter Tryz.func22, Tryz.ntmps22
  go_upto_region 1 with fail
  refine wp_gen (fun w' => Ext w w' ∧ Blk w' (w.heap.size) 25 #[.slice A n c, .slice B m d] ∧ Blk w' (w.heap.size + 1) 9 #[.string n2] ∧ Blk w' (w.heap.size + 1 + 1) 25 #[.slice none 0 0, .slice none 0 0]) ⟨((((ext_refl _).new _).new _).new _), (((blk_at _ _ (by simp)).alloc _).alloc _), ((blk_at _ _ (by simp)).alloc _), (blk_at _ _ (by simp))⟩ ?_
  rintro wz ⟨XZ0, B0, B1, B2⟩
  have XZ : Hid (Ext w wz) := hid XZ0
  have p0 := B0.cell 0
  have p1 := B0.cell 1
  have HRB := hid B2
  have HL2 := hid HRB.out.lt
  have HX1 := hid B1
  clear XZ0 B0 B1 B2
  go_wp2_with fail
  refine Calls.mono (HCALL.out _ XZ.out HX1.out) ?_
  rintro e w1 ⟨v', rfl, hl, hx⟩
  obtain ⟨A5, n5, c5, D5, m5, d5, rfl⟩ := hl.V.shape
  have HL := hid hl
  have X1 := hid (XZ.out.then hx)
  have R4 := hid (HRB.out.keep hx)
  clear p0 p1 hl hx
  have q0 := R4.out.cell 0
  have q1 := R4.out.cell 1
  have f0 := R4.out.frozen 0
  have f1 := R4.out.frozen 1
  go_wp2
  have HBF := hid (((R4.out.set 0 (.slice A5 n5 c5)).set 1 (.slice D5 m5 d5)).cast (cs' := #[.slice A5 n5 c5, .slice D5 m5 d5]) (by simp))
  have XF := hid (Ext.put (Ext.put X1.out (p := ⟨w.heap.size + 1 + 1, 0, none⟩) (by simp only; omega) (.slice A5 n5 c5)) (p := ⟨w.heap.size + 1 + 1, 1, none⟩) (by simp only; omega) (.slice D5 m5 d5))
  refine bodyPost_ret (results_blk2 rfl _ _ (w.heap.size + 1 + 1) 25 _ _ rfl HBF.out Tryz.underlying25 rfl (by kernel_rfl)) rfl ?_
  exact ⟨_, rfl, ((HL.out.put (p := ⟨w.heap.size + 1 + 1, 0, none⟩) HL2.out _).put (p := ⟨w.heap.size + 1 + 1, 1, none⟩) HL2.out _).low XZ.out.size, XF.out⟩
set_option maxHeartbeats 3200000 in
set_option maxRecDepth 100000 in
theorem red_any (t : Tb.Tab) (s : ByteArray) (p : List Cnd) (P : Option Addr) (np pcap : Nat) (v : Value) (w : World) (hv : TbV w v t) (hb : TbB t) (hpn : p.length = np) (hp : Rd w P (cns p)) (hnl : np ≤ 140737488355328) :
    Calls Tryz.prog 6 #[v, .string s, .slice P np pcap] w fun e w' => ∃ v', e = .returned (.tuple #[v', .int .i64 ((Tb.redE t s p : Nat) : Int)]) ∧ TbL w' w.heap.size v' (Tb.res (Tb.redE t s p) (Tb.redT t s p)) ∧ Ext w w' := by
  have HV := hid hv
  have HB := hid hb
  obtain ⟨A, n, c, B, m, d, rfl⟩ := hv.shape
  obtain ⟨R, hR⟩ : ∃ R, R = Tb.redE t s p := ⟨_, rfl⟩
  rw [← hR]
  have HR := hid hR
  have HCALL := hid (fun wz (XZ : Ext w wz) (BX1 : Blk wz (w.heap.size + 1) 26 #[.slice P np pcap]) => found_red t (Tb.redT t s p) s (Cnd.chk (Tb.knds t.1) p) (w.heap.size + 1) _ wz (hv.keep XZ) hb (fun hm hR base g wy hx hg hgb hbw ht => redC_any t p (Tb.at0 t s) base g (w.heap.size + 1) P np pcap wy ht hbw hR hb (ext_cell hx (BX1.cell 0)) hpn (hp.keep (XZ.then hx)) hnl (Tb.at_name hR hm).1))
  rw [show (if Tb.tbck t ≠ 0 then Tb.tbck t else if Tb.ixc t.1 s 0 < 0 then 5 else Cnd.chk (Tb.knds t.1) p) = R by rw [hR]; unfold Tb.redE; rfl] at HCALL
  obtain ⟨TT, hTT⟩ : ∃ TT, TT = Tb.redT t s p := ⟨_, rfl⟩
  rw [← hTT] at HCALL ⊢
  clear hv hb hR hTT hpn hp hnl
  go_enter Tryz.func6, Tryz.ntmps6
  go_upto_region 1 with fail
  refine wp_gen (fun w' => Ext w w' ∧ Blk w' (w.heap.size) 25 #[.slice A n c, .slice B m d] ∧ Blk w' (w.heap.size + 1) 26 #[.slice P np pcap] ∧ Blk w' (w.heap.size + 1 + 1) 25 #[.slice none 0 0, .slice none 0 0]) ⟨((((ext_refl _).new _).new _).new _), (((blk_at _ _ (by simp)).alloc _).alloc _), ((blk_at _ _ (by simp)).alloc _), (blk_at _ _ (by simp))⟩ ?_
  rintro wz ⟨XZ0, B0, B1, B2⟩
  have XZ : Hid (Ext w wz) := hid XZ0
  have p0 := B0.cell 0
  have p1 := B0.cell 1
  have HRB := hid B2
  have HL2 := hid HRB.out.lt
  have HX1 := hid B1
  clear XZ0 B0 B1 B2
  go_wp2_with fail
  refine Calls.mono (HCALL.out _ XZ.out HX1.out) ?_
  rintro e w1 ⟨v', rfl, hl, hx⟩
  obtain ⟨A5, n5, c5, D5, m5, d5, rfl⟩ := hl.V.shape
  have HL := hid hl
  have X1 := hid (XZ.out.then hx)
  have R4 := hid (HRB.out.keep hx)
  clear p0 p1 hl hx
  have q0 := R4.out.cell 0
  have q1 := R4.out.cell 1
  have f0 := R4.out.frozen 0
  have f1 := R4.out.frozen 1
  go_wp2
  have HBF := hid (((R4.out.set 0 (.slice A5 n5 c5)).set 1 (.slice D5 m5 d5)).cast (cs' := #[.slice A5 n5 c5, .slice D5 m5 d5]) (by simp))
  have XF := hid (Ext.put (Ext.put X1.out (p := ⟨w.heap.size + 1 + 1, 0, none⟩) (by simp only; omega) (.slice A5 n5 c5)) (p := ⟨w.heap.size + 1 + 1, 1, none⟩) (by simp only; omega) (.slice D5 m5 d5))
  refine bodyPost_ret (results_blk2 rfl _ _ (w.heap.size + 1 + 1) 25 _ _ rfl HBF.out Tryz.underlying25 rfl (by kernel_rfl)) rfl ?_
  exact ⟨_, rfl, ((HL.out.put (p := ⟨w.heap.size + 1 + 1, 0, none⟩) HL2.out _).put (p := ⟨w.heap.size + 1 + 1, 1, none⟩) HL2.out _).low XZ.out.size, XF.out⟩
end Go.Proofs.YtolhifnlahllnaaGreatDoor
end
section
namespace Go.Proofs.YtolhifnlahllnaaGreatDoor
open Go.RowKit Hy
set_option maxHeartbeats 3200000 in
set_option maxRecDepth 100000 in
theorem sameT_any (t s : Tb.Tab) (v u : Value) (w : World) (hv : TbV w v t) (hu : TbV w u s) (hb : TbB t) :
    Calls Tryz.prog 17 #[v, u] w fun e w' => e = .returned (.bool (decide (t = s))) ∧ Ext w w' := by
  obtain ⟨A, c, B, d, L, rfl, h1, h2, hL, hok, z1, z2, hc⟩ := hv
  obtain ⟨A2, c2, B2, d2, L2, rfl, k1, k2, kL, kok, y1, y2, yc⟩ := hu
  obtain ⟨n, hn⟩ : ∃ n, n = t.1.length := ⟨_, rfl⟩
  obtain ⟨m, hm⟩ : ∃ n, n = t.2.length := ⟨_, rfl⟩
  obtain ⟨n2, hn2⟩ : ∃ n, n = s.1.length := ⟨_, rfl⟩
  obtain ⟨m2, hm2⟩ : ∃ n, n = s.2.length := ⟨_, rfl⟩
  have bn := hb.n; have bm := hb.m
  have HSC := hid (fun wx (hx : Ext w wx) => sameC_any t.1 s.1 A A2 n n2 c c2 wx hn.symm (h1.keep hx) hn2.symm (k1.keep hx) (by omega))
  rw [← hn, ← hm, ← hn2, ← hm2]
  have HM := hid hm; have HM2 := hid hm2
  have HB := hid h2; have HB2 := hid k2; have HLM := hid hL; have HLM2 := hid kL; have HOK := hid hok; have HOK2 := hid kok
  have HDZ := hid hb.d
  have hmI : (m : Int) ≤ 140737488355328 := by omega
  have XN := hid (Ext.new (Ext.new (ext_refl w) (.cells #[.slice A n c, .slice B m d] 25)) (.cells #[.slice A2 n2 c2, .slice B2 m2 d2] 25))
  have BN := hid ((Blk.new w 25 #[.slice A n c, .slice B m d]).alloc (.cells #[.slice A2 n2 c2, .slice B2 m2 d2] 25))
  have BN2 := hid (Blk.new (w.alloc (.cells #[.slice A n c, .slice B m d] 25)) 25 #[.slice A2 n2 c2, .slice B2 m2 d2])
  rw [show (w.alloc (.cells #[.slice A n c, .slice B m d] 25)).heap.size = w.heap.size + 1 by simp] at BN2
  by_cases hcol : t.1 = s.1
  · have hcc : Tb.sameC t.1 s.1 = true := by unfold Tb.sameC; simp [hcol]
    rw [hcc] at HSC
    have HCO := hid hcol
    clear hb h1 h2 hL hok z1 z2 hc k1 k2 kL kok y1 y2 yc hn hn2 hm hm2 bn bm hcc hcol
    by_cases hmm : m = m2
    · subst hmm
      go_enter Tryz.func17, Tryz.ntmps17
      go_wp2_with fail
      refine Calls.mono (HSC.out _ XN.out) ?_
      rintro e w1 ⟨rfl, hx⟩
      have X1 := hid (Ext.then XN.out hx)
      have B1 := hid (BN.out.keep hx)
      have B3 := hid (BN2.out.keep hx)
      have p1 := B1.out.cell 1
      have q1 := B3.out.cell 1
      clear hx XN BN BN2
      go_wp2
      have p1 := True.intro
      have q1 := True.intro
      go_loopw [5] (fun i wr => ∃ k : Nat, k ≤ m ∧ i = .int .i64 k ∧ Hid (t.2.take k = s.2.take k) ∧ Hid (Ext w1 wr)) (fun i _ => m - (intOf i).toNat)
      case atStart => exact ⟨0, Nat.zero_le _, rfl, hid rfl, hid (ext_refl _)⟩
      case round =>
        obtain ⟨k, hk, rfl, HT, HX⟩ := hrel
        have p1 := (B1.out.keep HX.out).cell 1
        have q1 := (B3.out.keep HX.out).cell 1
        by_cases hlt : k < m
        · have hkd : k < t.2.length := by rw [← HM.out]; exact hlt
          have hks : k < s.2.length := by rw [← HM2.out]; exact hlt
          have hkL : k < L.length := by have := congrArg List.length HLM.out; rw [List.length_map] at this; omega
          have hkL2 : k < L2.length := by have := congrArg List.length HLM2.out; rw [List.length_map] at this; omega
          obtain ⟨b1, o1, e1, l1, c1⟩ := HB.out.rows k hkL
          obtain ⟨b2, o2, e2, l2, c2'⟩ := HB2.out.rows k hkL2
          have XW := hid (X1.out.then HX.out)
          have r1 := ext_cell XW.out (c1 k hkL)
          have r2 := ext_cell XW.out (c2' k hkL2)
          have hd1 : L[k].2 = t.2[k] := by simp [← HLM.out]
          have hd2 : L2[k].2 = s.2[k] := by simp [← HLM2.out]
          obtain ⟨u1, u2, u3, u4⟩ := HOK.out _ (List.getElem_mem hkL)
          obtain ⟨v1, v2, v3, v4⟩ := HOK2.out _ (List.getElem_mem hkL2)
          have HCS := hid (fun wx (hx : Ext w wx) => sameCells_any L[k].2 L2[k].2 L[k].1.1 L2[k].1.1 L[k].1.2.1 L2[k].1.2.1 L[k].1.2.2 L2[k].1.2.2 wx u1 v1 (u4.keep hx) (v4.keep hx) (by
            have := HDZ.out _ (List.getElem_mem hkd)
            rw [← hd1] at this
            omega))
          rw [hd1, hd2] at HCS
          have HTS := hid (Tb.takeStep t.2 s.2 k hkd hks HT.out)
          have HNE := hid (show t.2[k] ≠ s.2[k] → t ≠ s from fun h e => h (by subst e; rfl))
          generalize t.2[k] = x1 at *
          generalize s.2[k] = x2 at *
          generalize L[k].1.1 = Ak at *
          generalize L[k].1.2.1 = lk at *
          generalize L[k].1.2.2 = ck at *
          generalize L2[k].1.1 = Bk at *
          generalize L2[k].1.2.1 = lk2 at *
          generalize L2[k].1.2.2 = ck2 at *
          have hltI : (k : Int) < (m : Int) := by omega
          have he1 := hid e1
          have he2 := hid e2
          clear c1 c2' l1 l2 e1 e2 hd1 hd2 u1 u2 u3 u4 v1 v2 v3 v4 hkd hks hkL hkL2
          have e1 := he1.out
          have e2 := he2.out
          subst e1 e2
          have p1r := cell_regrown p1
          have q1r := cell_regrown q1
          have r1r := cell_regrown r1
          have r2r := cell_regrown r2
          go_upto_region 6 with fail
          refine wp_region_walk [(0, true), (1, true), (2, true), (3, true), (4, true), (5, true), (6, true), (7, true), (8, true), (9, true), (10, false), (11, true)] (by kernel_rfl) (by kernel_rfl) (fun _ _ _ _ _ h => h) (by kernel_rfl) (by rfl) ?_
          simp only [List.filterMap_cons, List.filterMap_nil, List.getElem?_toArray, List.getElem?_cons_zero, List.getElem?_cons_succ, Option.map_some]
          repeat (refine wpM_val (by rfl) ?_; intro K hK; go_big_quiet_op; go_big_quiet_on)
          have Y0 : Ext wr wr.drew := (ext_refl wr).draw
          refine wpM_do (by rfl) ?_
          intro K hK
          go_simp
          refine Calls.mono (HCS.out _ (XW.out.then Y0)) ?_
          rintro e y1 ⟨rfl, hx⟩
          have Y1 := Ext.then Y0 hx
          refine hK _ _ Y1 ?_
          have Z1 := hid Y1
          clear K hK hx Y0 Y1 p1r q1r r1r r2r p1 q1 r1 r2
          by_cases heq : x1 = x2
          · rw [decide_eq_true heq]
            have HT2 := hid (HTS.out heq)
            clear heq
            repeat (refine wpM_val (by rfl) ?_; intro K hK; go_big_quiet_op; go_big_quiet_on)
            refine wpM_nil ?_
            go_wp2
            go_roundw
            case rel => exact ⟨k + 1, by omega, by go_num, HT2, hid (HX.out.then Z1.out)⟩
            case measure => simp [intOf]; omega
          · rw [decide_eq_false heq]
            have HN2 := hid (HNE.out heq)
            clear heq
            repeat (refine wpM_val (by rfl) ?_; intro K hK; go_big_quiet_op; go_big_quiet_on)
            refine wpM_nil ?_
            go_wp2
            go_returns
            exact ⟨by rw [decide_eq_false HN2.out]; rfl, XW.out.then Z1.out⟩
        · obtain rfl : m = k := by omega
          go_wp2
          go_returns
          refine ⟨?_, X1.out.then HX.out⟩
          have h1 := HT.out
          rw [List.take_of_length_le (by rw [← HM.out]; exact Nat.le_refl _), List.take_of_length_le (by rw [← HM2.out]; exact Nat.le_refl _)] at h1
          rw [decide_eq_true (Prod.ext HCO.out h1)]; rfl
    · have hts : t ≠ s := fun e => by have h1 := HM.out; have h2 := HM2.out; subst e; omega
      rw [decide_eq_false hts]
      have h3 : ((m : Int) == (m2 : Int)) = false := by rw [beq_eq_false_iff_ne]; omega
      have h4 : ((m : Int) != (m2 : Int)) = true := by rw [bne_iff_ne]; omega
      clear hts hmm
      go_enter Tryz.func17, Tryz.ntmps17
      go_wp2_with fail
      refine Calls.mono (HSC.out _ XN.out) ?_
      rintro e w1 ⟨rfl, hx⟩
      have X1 := hid (Ext.then XN.out hx)
      have B1 := hid (BN.out.keep hx)
      have B3 := hid (BN2.out.keep hx)
      have p1 := B1.out.cell 1
      have q1 := B3.out.cell 1
      clear hx XN BN BN2
      go_wp2
      go_returns
      exact ⟨rfl, X1.out⟩
  · have hcc : Tb.sameC t.1 s.1 = false := by unfold Tb.sameC; simp [hcol]
    have hts : t ≠ s := fun e => hcol (by rw [e])
    rw [decide_eq_false hts]
    rw [hcc] at HSC
    clear hb h1 h2 hL hok z1 z2 hc k1 k2 kL kok y1 y2 yc hn hn2 hm hm2 bn bm hcc hcol hts
    go_enter Tryz.func17, Tryz.ntmps17
    go_wp2_with fail
    refine Calls.mono (HSC.out _ XN.out) ?_
    rintro e w1 ⟨rfl, hx⟩
    have X1 := hid (Ext.then XN.out hx)
    clear hx XN BN BN2
    go_wp2
    go_returns
    exact ⟨rfl, X1.out⟩
end Go.Proofs.YtolhifnlahllnaaGreatDoor
end
section
namespace Hy.Tb
def sId : ByteArray := ⟨#[105, 100]⟩
def sName : ByteArray := ⟨#[110, 97, 109, 101]⟩
def sNote : ByteArray := ⟨#[110, 111, 116, 101]⟩
def sKey : ByteArray := ⟨#[107, 101, 121]⟩
def sRook : ByteArray := ⟨#[114, 111, 111, 107]⟩
def sWren : ByteArray := ⟨#[119, 114, 101, 110]⟩
def s0 : ByteArray := ⟨#[]⟩
def T0 : Tab := ([(sId, 1), (sName, 2)], [[(1, 1, s0), (1, 2, s0), (1, 9, s0)], [(2, 0, sRook), (0, 0, s0), (2, 0, sWren)]])
def T1 : Tab := addT T0 (sNote, 1) (1, 7, s0)
def pMore : List Cnd := [(3, 0, 1, 1, s0)]
def T2 : Tab := redT T1 sName pMore
def pGone : List Cnd := [(4, 1, 0, 0, s0)]
def T3 : Tab := keepT T2 pGone
def T4 : Tab := renT T3 sId sKey
def nTwo : List (List UInt8) := [[110, 111, 116, 101], [107, 101, 121]]
def T5 : Tab := projT T4 (bas nTwo)
def T6 : Tab := sliceT T0 1 1
def T7 : Tab := appT T6 T0
def T8 : Tab := (T0.1, [])
theorem bg_e1 : addE T0 (sNote, 1) (1, 7, s0) = 0 := by decide +kernel
theorem bg_e2 : redE T1 sName pMore = 0 := by decide +kernel
theorem bg_e3 : keepE T2 pGone = 0 := by decide +kernel
theorem bg_e4 : renE T3 sId sKey = 0 := by decide +kernel
theorem bg_e5 : projE T4 (bas nTwo) = 0 := by decide +kernel
theorem bg_e6 : sliceE T0 1 1 = 0 := by decide +kernel
theorem bg_e7 : appE T6 T0 = 0 := by decide +kernel
theorem bg_k0 : tbck T0 = 0 := by decide +kernel
theorem bg_k1 : tbck T1 = 0 := by decide +kernel
theorem bg_k2 : tbck T2 = 0 := by decide +kernel
theorem bg_k3 : tbck T3 = 0 := by decide +kernel
theorem bg_k4 : tbck T4 = 0 := by decide +kernel
theorem bg_k5 : tbck T5 = 0 := by decide +kernel
theorem bg_k6 : tbck T6 = 0 := by decide +kernel
theorem bg_k7 : tbck T7 = 0 := by decide +kernel
theorem bg_k8 : tbck T8 = 1 := by decide +kernel
theorem bg_m7 : many T7 = 4 := by decide +kernel
theorem bg_row : rowAt T5.2 1 = [(1, 7, s0), (1, 9, s0)] := by decide +kernel
theorem bg_m5 : many T5 = 2 := by decide +kernel
end Hy.Tb
namespace Go.Proofs.YtolhifnlahllnaaGreatDoor
open Go.RowKit Hy
theorem Right.B {t : Tb.Tab} (h : Tb.Right t) : TbB t := by
  have h6 := h.six
  have hl := h.len
  have hm := h.lim
  refine ⟨by omega, by omega, fun x hx => ?_, fun x hx => by rw [h.row x hx]; omega⟩
  have := (h.ok x hx).1
  unfold Nm.nm at this
  simp only [Bool.and_eq_true, decide_eq_true_eq] at this
  have h2 := this.1.2
  rw [Array.length_toList] at h2
  have h3 : x.1.size = x.1.data.size := rfl
  omega
theorem ckB {t : Tb.Tab} (h : Tb.tbck t = 0) : TbB t := Right.B ((Tb.right_iff t).1 h)
theorem tb_num (x : Nat) (w : World) : Calls Tryz.prog 54 #[.int .u64 (x : Nat)] w fun e w' => e = .returned (celV (1, x, Tb.s0)) ∧ Ext w w' := by
  go_enter Tryz.func54, Tryz.ntmps54
  go_wp2
  refine bodyPost_ret (results_blk rfl _ _ w.heap.size 42 _ _ rfl (Blk.new _ _ _) Tryz.underlying42 rfl (by kernel_rfl)) rfl ?_
  exact ⟨rfl, (ext_refl _).new _⟩
theorem tb_txt (s : ByteArray) (w : World) : Calls Tryz.prog 87 #[.string s] w fun e w' => e = .returned (celV (2, 0, s)) ∧ Ext w w' := by
  go_enter Tryz.func87, Tryz.ntmps87
  go_wp2
  refine bodyPost_ret (results_blk rfl _ _ w.heap.size 42 _ _ rfl (Blk.new _ _ _) Tryz.underlying42 rfl (by kernel_rfl)) rfl ?_
  exact ⟨rfl, (ext_refl _).new _⟩
theorem tb_col (s : ByteArray) (k : Int) (w : World) : Calls Tryz.prog 56 #[.string s, .int .i64 k] w fun e w' => e = .returned (.agg #[.string s, .int .i64 k]) ∧ Ext w w' := by
  go_enter Tryz.func56, Tryz.ntmps56
  go_wp2
  refine bodyPost_ret (results_blk rfl _ _ w.heap.size 39 _ _ rfl (Blk.new _ _ _) Tryz.underlying39 rfl (by kernel_rfl)) rfl ?_
  exact ⟨rfl, (ext_refl _).new _⟩
theorem tb_conds (A : Option Addr) (n c : Nat) (w : World) : Calls Tryz.prog 53 #[.slice A n c] w fun e w' => e = .returned (.slice A n c) ∧ Ext w w' := by
  go_enter Tryz.func53, Tryz.ntmps53
  go_wp2
  go_returns
  exact ⟨rfl, ext_refl _⟩
theorem tb_texts (A : Option Addr) (n c : Nat) (w : World) : Calls Tryz.prog 57 #[.slice A n c] w fun e w' => e = .returned (.slice A n c) ∧ Ext w w' := by
  go_enter Tryz.func57, Tryz.ntmps57
  go_wp2
  go_returns
  exact ⟨rfl, ext_refl _⟩
theorem tb_cells (A : Option Addr) (n c : Nat) (w : World) : Calls Tryz.prog 58 #[.slice A n c] w fun e w' => e = .returned (.slice A n c) ∧ Ext w w' := by
  go_enter Tryz.func58, Tryz.ntmps58
  go_wp2
  go_returns
  exact ⟨rfl, ext_refl _⟩
set_option maxHeartbeats 3200000 in
set_option maxRecDepth 100000 in
theorem birds_any (w : World) : Calls Tryz.prog 55 #[] w fun e w' => ∃ v, e = .returned v ∧ TbL w' w.heap.size v Tb.T0 ∧ Ext w w' := by
  have X0 := hid (Ext.new (ext_refl w) (.cells #[.slice none 0 0, .slice none 0 0] 25))
  have B0 := hid (Blk.new w 25 #[.slice none 0 0, .slice none 0 0])
  go_enter Tryz.func55, Tryz.ntmps55
  go_wp2_with fail
  refine Calls.mono (tb_col Tb.sId 1 _) ?_
  rintro e w1 ⟨rfl, hx⟩
  have X := hid (X0.out.then hx)
  have B := hid (B0.out.keep hx)
  clear hx X0 B0
  go_wp2_with fail
  refine Calls.mono (tb_col Tb.sName 2 _) ?_
  rintro e w2 ⟨rfl, hx⟩
  replace X := hid (X.out.then hx)
  replace B := hid (B.out.keep hx)
  clear hx
  go_wp2_with fail
  have N1 := hid (Ext.new (ext_refl w2) (.cells #[.string Tb.sId, .int .i64 1, .string Tb.sName, .int .i64 2] 39))
  have RC := hid (show Rd (w2.alloc (.cells #[.string Tb.sId, .int .i64 1, .string Tb.sName, .int .i64 2] 39)) (some ⟨w2.heap.size, 0, none⟩) (ens Tb.T0.1) from rd_lit rfl rfl)
  have HG1 := hid (show w.heap.size < w2.heap.size from B.out.lt)
  obtain ⟨g1, hg1⟩ : ∃ g, g = w2.heap.size := ⟨_, rfl⟩
  rw [← hg1] at RC HG1 ⊢
  refine Calls.mono (tb_num 1 _) ?_
  rintro e w3 ⟨rfl, hx⟩
  replace X := hid (X.out.then (N1.out.then hx))
  replace B := hid (B.out.keep (N1.out.then hx))
  replace RC := hid (RC.out.keep hx)
  clear hx N1 hg1
  go_wp2_with fail
  refine Calls.mono (tb_num 2 _) ?_
  rintro e w4 ⟨rfl, hx⟩
  replace X := hid (X.out.then hx)
  replace B := hid (B.out.keep hx)
  replace RC := hid (RC.out.keep hx)
  clear hx
  go_wp2_with fail
  refine Calls.mono (tb_num 9 _) ?_
  rintro e w5 ⟨rfl, hx⟩
  replace X := hid (X.out.then hx)
  replace B := hid (B.out.keep hx)
  replace RC := hid (RC.out.keep hx)
  clear hx
  go_wp2_with fail
  have N1 := hid (Ext.new (ext_refl w5) (.cells #[.int .i64 1, .int .u64 1, .string Tb.s0, .int .i64 1, .int .u64 2, .string Tb.s0, .int .i64 1, .int .u64 9, .string Tb.s0] 42))
  have R1 := hid (show Rd (w5.alloc (.cells #[.int .i64 1, .int .u64 1, .string Tb.s0, .int .i64 1, .int .u64 2, .string Tb.s0, .int .i64 1, .int .u64 9, .string Tb.s0] 42)) (some ⟨w5.heap.size, 0, none⟩) (cls [(1, 1, Tb.s0), (1, 2, Tb.s0), (1, 9, Tb.s0)]) from rd_lit rfl rfl)
  have HG2 := hid (show w.heap.size < w5.heap.size from B.out.lt)
  obtain ⟨g2, hg2⟩ : ∃ g, g = w5.heap.size := ⟨_, rfl⟩
  rw [← hg2] at R1 HG2 ⊢
  refine Calls.mono (tb_cells _ _ _ _) ?_
  rintro e w6 ⟨rfl, hx⟩
  replace X := hid (X.out.then (N1.out.then hx))
  replace B := hid (B.out.keep (N1.out.then hx))
  replace RC := hid (RC.out.keep (N1.out.then hx))
  replace R1 := hid (R1.out.keep hx)
  clear hx N1 hg2
  go_wp2_with fail
  refine Calls.mono (tb_txt Tb.sRook _) ?_
  rintro e w7 ⟨rfl, hx⟩
  replace X := hid (X.out.then hx)
  replace B := hid (B.out.keep hx)
  replace RC := hid (RC.out.keep hx)
  replace R1 := hid (R1.out.keep hx)
  clear hx
  go_wp2_with fail
  refine Calls.mono (tb_txt Tb.sWren _) ?_
  rintro e w8 ⟨rfl, hx⟩
  replace X := hid (X.out.then hx)
  replace B := hid (B.out.keep hx)
  replace RC := hid (RC.out.keep hx)
  replace R1 := hid (R1.out.keep hx)
  clear hx
  go_wp2_with fail
  have N1 := hid (Ext.new (ext_refl w8) (.cells #[.int .i64 2, .int .u64 0, .string Tb.sRook, .int .i64 0, .int .u64 0, .string Tb.s0, .int .i64 2, .int .u64 0, .string Tb.sWren] 42))
  have R2 := hid (show Rd (w8.alloc (.cells #[.int .i64 2, .int .u64 0, .string Tb.sRook, .int .i64 0, .int .u64 0, .string Tb.s0, .int .i64 2, .int .u64 0, .string Tb.sWren] 42)) (some ⟨w8.heap.size, 0, none⟩) (cls [(2, 0, Tb.sRook), (0, 0, Tb.s0), (2, 0, Tb.sWren)]) from rd_lit rfl rfl)
  have HG3 := hid (show w.heap.size < w8.heap.size from B.out.lt)
  obtain ⟨g3, hg3⟩ : ∃ g, g = w8.heap.size := ⟨_, rfl⟩
  rw [← hg3] at R2 HG3 ⊢
  refine Calls.mono (tb_cells _ _ _ _) ?_
  rintro e wq ⟨rfl, hx⟩
  replace X := hid (X.out.then (N1.out.then hx))
  replace B := hid (B.out.keep (N1.out.then hx))
  replace RC := hid (RC.out.keep (N1.out.then hx))
  replace R1 := hid (R1.out.keep (N1.out.then hx))
  replace R2 := hid (R2.out.keep hx)
  clear hx N1 hg3
  have lg := B.out.lt
  have b0 := B.out.cell 0
  have b1 := B.out.cell 1
  have f0 := B.out.frozen 0
  have f1 := B.out.frozen 1
  go_wp2
  have h1 := HG1.out; have h2 := HG2.out; have h3 := HG3.out
  obtain ⟨ws, hws⟩ : ∃ ws, ws = (wq.setCell ⟨w.heap.size, 0, none⟩ (.slice (some ⟨g1, 0, none⟩) 2 2)).setCell ⟨w.heap.size, 1, none⟩ (.slice (some ⟨wq.heap.size, 0, none⟩) 2 2) := ⟨_, rfl⟩
  have hsz : ws.heap.size = wq.heap.size := by rw [hws, size_put, size_put]
  have hB : Blk ws w.heap.size 25 #[.slice (some ⟨g1, 0, none⟩) 2 2, .slice (some ⟨wq.heap.size, 0, none⟩) 2 2] := by rw [hws]; exact ((B.out.set 0 (.slice (some ⟨g1, 0, none⟩) 2 2)).set 1 (.slice (some ⟨wq.heap.size, 0, none⟩) 2 2)).cast (by simp)
  have hX : Ext w ws := by rw [hws]; exact Ext.put (Ext.put X.out (p := ⟨w.heap.size, 0, none⟩) (Nat.le_refl _) _) (p := ⟨w.heap.size, 1, none⟩) (Nat.le_refl _) _
  have hU : ∀ {gx : Nat} {cs : List Value}, w.heap.size < gx → Rd wq (some ⟨gx, 0, none⟩) cs → Rd ws (some ⟨gx, 0, none⟩) cs := fun h r => by
    rw [hws]
    exact Rd.but (Rd.but r (fun _ b hb => by cases hb; simp only; omega) _) (fun _ b hb => by cases hb; simp only; omega) _
  have u1 := hU h1 RC.out
  have u2 := hU h2 R1.out
  have u3 := hU h3 R2.out
  rw [← hws]
  clear hU hws
  have N1 := Ext.new (ext_refl ws) (.cells #[.slice (some ⟨g2, 0, none⟩) 3 3, .slice (some ⟨g3, 0, none⟩) 3 3] 45)
  have RB : Rd (ws.alloc (.cells #[.slice (some ⟨g2, 0, none⟩) 3 3, .slice (some ⟨g3, 0, none⟩) 3 3] 45)) (some ⟨wq.heap.size, 0, none⟩) (rws' [((some ⟨g2, 0, none⟩, 3, 3), [(1, 1, Tb.s0), (1, 2, Tb.s0), (1, 9, Tb.s0)]), ((some ⟨g3, 0, none⟩, 3, 3), [(2, 0, Tb.sRook), (0, 0, Tb.s0), (2, 0, Tb.sWren)])]) := rd_lit hsz.symm rfl
  have HL : TbL (ws.alloc (.cells #[.slice (some ⟨g2, 0, none⟩) 3 3, .slice (some ⟨g3, 0, none⟩) 3 3] 45)) w.heap.size (.agg #[.slice (some ⟨g1, 0, none⟩) 2 2, .slice (some ⟨wq.heap.size, 0, none⟩) 2 2]) Tb.T0 := by
    refine ⟨_, _, _, _, _, rfl, u1.keep N1, RB, rfl, fun x hx => ?_, (fun h => by cases h), (fun h => by cases h), Nat.le_refl _, fun a h => ?_, fun a h => ?_, fun x hx a h => ?_⟩
    · simp only [List.mem_cons, List.not_mem_nil, or_false] at hx
      rcases hx with rfl | rfl
      · exact ⟨rfl, Nat.le_refl _, (fun h => by cases h), u2.keep N1⟩
      · exact ⟨rfl, Nat.le_refl _, (fun h => by cases h), u3.keep N1⟩
    · cases h; exact Nat.le_of_lt h1
    · cases h; exact Nat.le_of_lt lg
    · simp only [List.mem_cons, List.not_mem_nil, or_false] at hx
      rcases hx with rfl | rfl
      · cases h; exact Nat.le_of_lt h2
      · cases h; exact Nat.le_of_lt h3
  refine bodyPost_ret (results_blk rfl _ _ w.heap.size 25 _ _ rfl (hB.keep N1) Tryz.underlying25 rfl (by kernel_rfl)) rfl ?_
  exact ⟨_, rfl, HL, hX.then N1⟩
end Go.Proofs.YtolhifnlahllnaaGreatDoor
end
section
namespace Go.Proofs.YtolhifnlahllnaaGreatDoor
open Go.RowKit Hy
theorem bgc_add (v : Value) (w : World) (hv : TbV w v Tb.T0) : Calls Tryz.prog 20 #[v, .agg #[.string Tb.sNote, .int .i64 1], celV (1, 7, Tb.s0)] w fun e w' => ∃ v', e = .returned (.tuple #[v', .int .i64 0]) ∧ TbL w' w.heap.size v' Tb.T1 ∧ Ext w w' := by
  have h := add_any Tb.T0 Tb.sNote 1 1 7 Tb.s0 v w hv (ckB Tb.bg_k0) (by decide)
  rw [Tb.bg_e1] at h; exact h
theorem bgc_red (v : Value) (P : Option Addr) (c : Nat) (w : World) (hv : TbV w v Tb.T1) (hp : Rd w P (cns Tb.pMore)) : Calls Tryz.prog 6 #[v, .string Tb.sName, .slice P 1 c] w fun e w' => ∃ v', e = .returned (.tuple #[v', .int .i64 0]) ∧ TbL w' w.heap.size v' Tb.T2 ∧ Ext w w' := by
  have h := red_any Tb.T1 Tb.sName Tb.pMore P 1 c v w hv (ckB Tb.bg_k1) rfl hp (by decide)
  rw [Tb.bg_e2] at h; exact h
theorem bgc_keep (v : Value) (P : Option Addr) (c : Nat) (w : World) (hv : TbV w v Tb.T2) (hp : Rd w P (cns Tb.pGone)) : Calls Tryz.prog 7 #[v, .slice P 1 c] w fun e w' => ∃ v', e = .returned (.tuple #[v', .int .i64 0]) ∧ TbL w' w.heap.size v' Tb.T3 ∧ Ext w w' := by
  have h := keep_any Tb.T2 Tb.pGone P 1 c v w hv (ckB Tb.bg_k2) rfl hp (by decide)
  rw [Tb.bg_e3] at h; exact h
theorem bgc_ren (v : Value) (w : World) (hv : TbV w v Tb.T3) : Calls Tryz.prog 22 #[v, .string Tb.sId, .string Tb.sKey] w fun e w' => ∃ v', e = .returned (.tuple #[v', .int .i64 0]) ∧ TbL w' w.heap.size v' Tb.T4 ∧ Ext w w' := by
  have h := ren_any Tb.T3 Tb.sId Tb.sKey v w hv (ckB Tb.bg_k3) (by decide)
  rw [Tb.bg_e4] at h; exact h
theorem bgc_proj (v : Value) (P : Option Addr) (w : World) (hv : TbV w v Tb.T4) (hp : Rd w P (txs Tb.nTwo)) : Calls Tryz.prog 8 #[v, .slice P 2 2] w fun e w' => ∃ v', e = .returned (.tuple #[v', .int .i64 0]) ∧ TbL w' w.heap.size v' Tb.T5 ∧ Ext w w' := by
  have h := proj_any Tb.T4 Tb.nTwo P 2 2 v w hv (ckB Tb.bg_k4) rfl hp (by decide) (by decide)
  rw [Tb.bg_e5] at h; exact h
theorem bgc_slice (v : Value) (w : World) (hv : TbV w v Tb.T0) : Calls Tryz.prog 9 #[v, .int .i64 1, .int .i64 1] w fun e w' => ∃ v', e = .returned (.tuple #[v', .int .i64 0]) ∧ TbL w' w.heap.size v' Tb.T6 ∧ Ext w w' := by
  have h := slice_any Tb.T0 1 1 v w hv (ckB Tb.bg_k0)
  rw [Tb.bg_e6] at h; exact h
theorem bgc_app (v u : Value) (w : World) (hv : TbV w v Tb.T6) (hu : TbV w u Tb.T0) : Calls Tryz.prog 10 #[v, u] w fun e w' => ∃ v', e = .returned (.tuple #[v', .int .i64 0]) ∧ TbL w' w.heap.size v' Tb.T7 ∧ Ext w w' := by
  have h := app_any Tb.T6 Tb.T0 u v w hv (ckB Tb.bg_k6) hu (ckB Tb.bg_k0)
  rw [Tb.bg_e7] at h; exact h
theorem bgc_rows (v : Value) (w : World) (hv : TbV w v Tb.T7) : Calls Tryz.prog 18 #[v] w fun e w' => e = .returned (.tuple #[.int .i64 4, .int .i64 0]) ∧ Ext w w' := by
  have h := rows_any Tb.T7 v w hv (ckB Tb.bg_k7)
  rw [Tb.bg_k7, Tb.bg_m7] at h; exact h
theorem bgc_row (v : Value) (w : World) (hv : TbV w v Tb.T5) : Calls Tryz.prog 19 #[v, .int .i64 1] w fun e w' => ∃ A c, e = .returned (.tuple #[.slice A 2 c, .int .i64 0]) ∧ Rd w' A (cls [(1, 7, Tb.s0), (1, 9, Tb.s0)]) ∧ Ext w w' := by
  have hR := (Tb.right_iff _).1 Tb.bg_k5
  have h := row_any Tb.T5 1 v w hv (ckB Tb.bg_k5) (fun _ => ⟨by have h1 := hR.six; have h2 := hR.len; omega, hR.row, hR.lim⟩)
  have e1 : rowE Tb.T5 1 = 0 := by unfold rowE; rw [if_neg (by simp [Tb.bg_k5]), if_neg (by rw [Tb.bg_m5]; decide)]
  have e2 : rowL Tb.T5 1 = [(1, 7, Tb.s0), (1, 9, Tb.s0)] := by unfold rowL; rw [if_pos e1]; exact Tb.bg_row
  rw [e1, e2] at h
  refine Calls.mono h ?_
  rintro e w' ⟨v', rfl, ho, hx⟩
  obtain ⟨A, c, rfl, hr, _⟩ := Rd.owned ho
  exact ⟨A, c, rfl, hr, hx⟩
theorem bg_B8 : TbB Tb.T8 := ⟨by decide, by decide, by simp [Tb.T8, Tb.T0, Tb.sId, Tb.sName]; decide, by simp [Tb.T8]⟩
theorem wp_cutTb {P : Program} {c : Code} {Q : Exit → Act → World → Prop} {a : Act} {w : World} (A : Nat → Nat → Option Addr → Nat → Nat → Option Addr → Nat → Nat → Act) (F : Nat → Nat → Option Addr → Nat → Nat → Option Addr → Nat → Nat → World → Prop)
    (h1 : c.wp P (fun e a' w' => e = .normal ∧ ∃ x g A1 n1 c1 D1 m1 d1, a' = A x g A1 n1 c1 D1 m1 d1 ∧ F x g A1 n1 c1 D1 m1 d1 w') a w)
    (h2 : ∀ x g A1 n1 c1 D1 m1 d1 w', F x g A1 n1 c1 D1 m1 d1 w' → Q .normal (A x g A1 n1 c1 D1 m1 d1) w') : c.wp P Q a w :=
  Code.wp_mono (by rintro e a' w' ⟨rfl, x, g, A1, n1, c1, D1, m1, d1, rfl, h⟩; exact h2 _ _ _ _ _ _ _ _ _ h) h1
theorem wp_cutTc {P : Program} {c : Code} {Q : Exit → Act → World → Prop} {a : Act} {w : World} (A : Option Addr → Nat → Nat → Option Addr → Nat → Nat → Nat → Option Addr → Nat → Nat → Option Addr → Nat → Nat → Act) (F : Option Addr → Nat → Nat → Option Addr → Nat → Nat → Nat → Option Addr → Nat → Nat → Option Addr → Nat → Nat → World → Prop)
    (h1 : c.wp P (fun e a' w' => e = .normal ∧ ∃ b1 b2 b3 b4 b5 b6 g A1 n1 c1 D1 m1 d1, a' = A b1 b2 b3 b4 b5 b6 g A1 n1 c1 D1 m1 d1 ∧ F b1 b2 b3 b4 b5 b6 g A1 n1 c1 D1 m1 d1 w') a w)
    (h2 : ∀ b1 b2 b3 b4 b5 b6 g A1 n1 c1 D1 m1 d1 w', F b1 b2 b3 b4 b5 b6 g A1 n1 c1 D1 m1 d1 w' → Q .normal (A b1 b2 b3 b4 b5 b6 g A1 n1 c1 D1 m1 d1) w') : c.wp P Q a w :=
  Code.wp_mono (by rintro e a' w' ⟨rfl, b1, b2, b3, b4, b5, b6, g, A1, n1, c1, D1, m1, d1, rfl, h⟩; exact h2 _ _ _ _ _ _ _ _ _ _ _ _ _ _ h) h1
set_option maxHeartbeats 12800000 in
set_option maxRecDepth 100000 in
theorem tableBegun_any (w : World) : Calls Tryz.prog 16 #[] w fun e w' => e = .returned (.bool true) ∧ Ext w w' := by
  go_enter Tryz.func16, Tryz.ntmps16
  have X : Hid (Ext w w) := hid (ext_refl w)
  go_wp2_with fail
  refine Calls.mono (tb_num 1 _) ?_
  rintro e w1 ⟨rfl, hx⟩
  replace X := hid (Ext.then X.out hx)
  clear hx
  go_wp2_with fail
  have N1 := hid (Ext.new (ext_refl w1) (.cells #[.int .i64 3, .int .i64 0, .int .i64 1, .int .u64 1, .string Tb.s0] 58))
  have RP := hid (show Rd (w1.alloc (.cells #[.int .i64 3, .int .i64 0, .int .i64 1, .int .u64 1, .string Tb.s0] 58)) (some ⟨w1.heap.size, 0, none⟩) (cns Tb.pMore) from rd_lit rfl rfl)
  obtain ⟨gp, hgp⟩ : ∃ g, g = w1.heap.size := ⟨_, rfl⟩
  rw [← hgp] at RP ⊢
  refine Calls.mono (tb_conds _ _ _ _) ?_
  rintro e w2 ⟨rfl, hx⟩
  replace X := hid (X.out.then (N1.out.then hx))
  replace RP := hid (RP.out.keep hx)
  clear hx N1 hgp
  go_wp2_with fail
  refine Calls.mono (birds_any _) ?_
  rintro e w3 ⟨v', rfl, hl, hx⟩
  obtain ⟨A0, n0, c0, D0, m0, d0, rfl⟩ := hl.V.shape
  have V0 := hid hl.V
  replace X := hid (X.out.then hx)
  replace RP := hid (RP.out.keep hx)
  clear hx hl
  go_wp2_with fail
  refine Calls.mono (tb_col Tb.sNote 1 _) ?_
  rintro e w4 ⟨rfl, hx⟩
  replace X := hid (Ext.then X.out hx)
  replace RP := hid (RP.out.keep hx)
  replace V0 := hid (V0.out.keep hx)
  clear hx
  go_wp2_with fail
  refine Calls.mono (tb_num 7 _) ?_
  rintro e w5 ⟨rfl, hx⟩
  replace X := hid (Ext.then X.out hx)
  replace RP := hid (RP.out.keep hx)
  replace V0 := hid (V0.out.keep hx)
  clear hx
  go_wp2_with fail
  refine Calls.mono (bgc_add _ _ V0.out) ?_
  rintro e w6 ⟨v', rfl, hl, hx⟩
  obtain ⟨A1, n1, c1, D1, m1, d1, rfl⟩ := hl.V.shape
  have hn := Ext.new (ext_refl w6) (.cells #[.slice A1 n1 c1, .slice D1 m1 d1] 25)
  have B1 := hid (Blk.new w6 25 #[.slice A1 n1 c1, .slice D1 m1 d1])
  have V1 := hid (hl.V.keep hn)
  have hy := Ext.then (hx) hn
  replace X := hid (X.out.then hy)
  replace RP := hid (RP.out.keep hy)
  replace V0 := hid (V0.out.keep hy)
  clear hx hl hn hy
  clear V0
  go_wp2_with fail
  refine Calls.mono (bgc_red _ _ _ _ V1.out RP.out) ?_
  rintro e w7 ⟨v', rfl, hl, hx⟩
  obtain ⟨A2, n2, c2, D2, m2, d2, rfl⟩ := hl.V.shape
  have hn := Ext.new (ext_refl w7) (.cells #[.slice A2 n2 c2, .slice D2 m2 d2] 25)
  have B2 := hid (Blk.new w7 25 #[.slice A2 n2 c2, .slice D2 m2 d2])
  have V2 := hid (hl.V.keep hn)
  have hy := Ext.then (hx) hn
  replace X := hid (X.out.then hy)
  replace RP := hid (RP.out.keep hy)
  clear hx hl hn hy
  clear RP B1 V1
  go_upto_region 4 with fail
  generalize w7.alloc (.cells #[.slice A2 n2 c2, .slice D2 m2 d2] 25) = wa at *
  generalize w7.heap.size = ga at *
  apply wp_cutTb (F := fun x g A1 n1 c1 D1 m1 d1 w' => Hid (Ext wa w') ∧ Hid (Blk w' g 25 #[.slice A1 n1 c1, .slice D1 m1 d1]) ∧ Hid (TbV w' (.agg #[.slice A1 n1 c1, .slice D1 m1 d1]) Tb.T3))
  case h1 =>
    have p0 := B2.out.cell 0
    have p1 := B2.out.cell 1
    have p0r := cell_regrown p0
    have p1r := cell_regrown p1
    have V : TbV wa _ Tb.T2 := V2.out
    refine wp_region_tree (.one 0 true (.one 1 true (.two 2 8 (.two 3 8 (.two 4 8 (.one 5 true (.one 6 true (.one 7 true (.one 8 false (.one 9 false (.one 10 true (.nil))))))) (.one 4 false (.one 5 true (.one 6 true (.one 7 true (.one 9 false (.one 10 true (.nil)))))))) (.one 3 false (.one 4 false (.one 5 true (.one 6 true (.one 7 true (.one 9 false (.one 10 true (.nil))))))))) (.one 2 false (.one 3 false (.one 4 false (.one 5 true (.one 6 true (.one 7 true (.one 9 false (.one 10 true (.nil)))))))))))) (by kernel_rfl) (by kernel_rfl) (by rintro _ _ _ _ _ ⟨h, _⟩; cases h) (by kernel_rfl) (by rfl) ?_
    simp only [fillT, List.getD_cons_zero, List.getD_cons_succ]
    have Y0 : Ext wa wa.drew := (ext_refl wa).draw
    replace V := TbV.keep V (Y0)
    generalize wa.drew = y0 at *
    repeat (refine wpTO_val (by rfl) ?_; intro K hK; go_big_quiet_op; go_big_quiet_on)
    refine wpTO_two ?_ ?_
    · refine wpTO_do (by rfl) ?_
      intro K hK
      go_simp
      replace V := TbV.keep V (Ext.new (ext_refl y0) (.cells #[.int .i64 4, .int .i64 1, .int .i64 0, .int .u64 0, .string ⟨#[]⟩] 58))
      have RL : Rd (y0.alloc (.cells #[.int .i64 4, .int .i64 1, .int .i64 0, .int .u64 0, .string ⟨#[]⟩] 58)) (some ⟨y0.heap.size, 0, none⟩) (cns Tb.pGone) := rd_lit rfl rfl
      have Y1 := Ext.new Y0 (.cells #[.int .i64 4, .int .i64 1, .int .i64 0, .int .u64 0, .string ⟨#[]⟩] 58)
      generalize y0.alloc (.cells #[.int .i64 4, .int .i64 1, .int .i64 0, .int .u64 0, .string ⟨#[]⟩] 58) = y1 at *
      generalize y0.heap.size = gx at *
      refine hK _ _ Y1 ?_
      clear K hK
      refine wpTO_two ?_ ?_
      · refine wpTO_do (by rfl) ?_
        intro K hK
        go_simp
        refine Calls.mono (tb_conds _ _ _ _) ?_
        rintro e y2 ⟨rfl, hx⟩
        have Y2 := Ext.then Y1 hx
        replace V := TbV.keep V (hx)
        replace RL := Rd.keep RL (hx)
        refine hK _ _ Y2 ?_
        clear K hK hx
        refine wpTO_two ?_ ?_
        · refine wpTO_do (by rfl) ?_
          intro K hK
          go_simp
          refine Calls.mono (bgc_keep _ _ _ _ V RL) ?_
          rintro e y3 ⟨v', rfl, hl, hx⟩
          obtain ⟨A1, n1, c1, D1, m1, d1, rfl⟩ := hl.V.shape
          have Y3 := Ext.then Y2 hx
          replace V := TbV.keep V (hx)
          replace RL := Rd.keep RL (hx)
          have VO := hl.V
          have XC := ext_refl y3
          refine hK _ _ Y3 ?_
          clear K hK hx hl
          repeat (refine wpTO_val (by rfl) ?_; intro K hK; go_big_quiet_op; go_big_quiet_on)
          refine wpTO_do (by rfl) ?_
          intro K hK
          go_simp
          have XC0 := XC
          replace V := TbV.keep V (Ext.new (ext_refl y3) (.cells #[.slice none 0 0, .slice none 0 0] 25))
          replace RL := Rd.keep RL (Ext.new (ext_refl y3) (.cells #[.slice none 0 0, .slice none 0 0] 25))
          replace XC := Ext.then XC (Ext.new (ext_refl y3) (.cells #[.slice none 0 0, .slice none 0 0] 25))
          have BG := Blk.new y3 25 #[.slice none 0 0, .slice none 0 0]
          have Y4 := Ext.new Y3 (.cells #[.slice none 0 0, .slice none 0 0] 25)
          have hgs := (Y3).size
          obtain ⟨g, hg⟩ : ∃ g, g = (y3 : World).heap.size := ⟨_, rfl⟩
          have hgv : y3.heap.size ≤ g := by rw [hg]; exact XC0.size
          rw [← hg] at BG hgs ⊢
          generalize (y3 : World).alloc (.cells #[.slice none 0 0, .slice none 0 0] 25) = y4 at *
          refine hK _ _ Y4 ?_
          clear K hK hg
          have q0 := BG.cell 0
          have q1 := BG.cell 1
          have f0 := BG.frozen 0
          have f1 := BG.frozen 1
          refine wpTO_do (by rfl) ?_
          intro K hK
          go_simp
          refine hK _ _ (Ext.put (Ext.put Y4 (p := ⟨g, 0, none⟩) hgs (.slice A1 n1 c1)) (p := ⟨g, 1, none⟩) hgs (.slice D1 m1 d1)) ?_
          clear K hK
          repeat (refine wpTO_val (by rfl) ?_; intro K hK; go_big_quiet_op; go_big_quiet_on)
          refine wpTO_nil ?_
          refine ⟨rfl, gx, g, A1, n1, c1, D1, m1, d1, rfl, hid (Ext.put (Ext.put Y4 (p := ⟨g, 0, none⟩) hgs (.slice A1 n1 c1)) (p := ⟨g, 1, none⟩) hgs (.slice D1 m1 d1)), hid (((BG.set 0 (.slice A1 n1 c1)).set 1 (.slice D1 m1 d1)).cast (by simp)), hid (VO.keep (Ext.put (Ext.put XC (p := ⟨g, 0, none⟩) hgv _) (p := ⟨g, 1, none⟩) hgv _))⟩
        · refine wpTO_do (by rfl) ?_
          intro K hK
          go_simp
          replace V := TbV.keep V (Ext.new (ext_refl y2) (.cells #[.slice none 0 0, .slice none 0 0] 25))
          replace RL := Rd.keep RL (Ext.new (ext_refl y2) (.cells #[.slice none 0 0, .slice none 0 0] 25))
          have BG := Blk.new y2 25 #[.slice none 0 0, .slice none 0 0]
          have Y5 := Ext.new Y2 (.cells #[.slice none 0 0, .slice none 0 0] 25)
          have hgs := (Y2).size
          obtain ⟨g, hg⟩ : ∃ g, g = (y2 : World).heap.size := ⟨_, rfl⟩
          rw [← hg] at BG hgs ⊢
          generalize (y2 : World).alloc (.cells #[.slice none 0 0, .slice none 0 0] 25) = y5 at *
          refine hK _ _ Y5 ?_
          clear K hK hg
          refine wpTO_do (by rfl) ?_
          intro K hK
          go_simp
          have lgb := BG.lt
          refine Calls.mono (bgc_keep _ _ _ _ V RL) ?_
          rintro e y6 ⟨v', rfl, hl, hx⟩
          obtain ⟨A1, n1, c1, D1, m1, d1, rfl⟩ := hl.V.shape
          have Y6 := Ext.then Y5 hx
          replace V := TbV.keep V (hx)
          replace RL := Rd.keep RL (hx)
          replace BG := Blk.keep BG (hx)
          have VO := hl
          have hgb := lgb
          refine hK _ _ Y6 ?_
          clear K hK hx hl
          repeat (refine wpTO_val (by rfl) ?_; intro K hK; go_big_quiet_op; go_big_quiet_on)
          have q0 := BG.cell 0
          have q1 := BG.cell 1
          have f0 := BG.frozen 0
          have f1 := BG.frozen 1
          refine wpTO_do (by rfl) ?_
          intro K hK
          go_simp
          refine hK _ _ (Ext.put (Ext.put Y6 (p := ⟨g, 0, none⟩) hgs (.slice A1 n1 c1)) (p := ⟨g, 1, none⟩) hgs (.slice D1 m1 d1)) ?_
          clear K hK
          repeat (refine wpTO_val (by rfl) ?_; intro K hK; go_big_quiet_op; go_big_quiet_on)
          refine wpTO_nil ?_
          refine ⟨rfl, gx, g, A1, n1, c1, D1, m1, d1, rfl, hid (Ext.put (Ext.put Y6 (p := ⟨g, 0, none⟩) hgs (.slice A1 n1 c1)) (p := ⟨g, 1, none⟩) hgs (.slice D1 m1 d1)), hid (((BG.set 0 (.slice A1 n1 c1)).set 1 (.slice D1 m1 d1)).cast (by simp)), hid (((VO.put (p := ⟨g, 0, none⟩) hgb _).put (p := ⟨g, 1, none⟩) hgb _).V)⟩
      · refine wpTO_do (by rfl) ?_
        intro K hK
        go_simp
        replace V := TbV.keep V (Ext.new (ext_refl y1) (.cells #[.slice none 0 0, .slice none 0 0] 25))
        replace RL := Rd.keep RL (Ext.new (ext_refl y1) (.cells #[.slice none 0 0, .slice none 0 0] 25))
        have BG := Blk.new y1 25 #[.slice none 0 0, .slice none 0 0]
        have Y7 := Ext.new Y1 (.cells #[.slice none 0 0, .slice none 0 0] 25)
        have hgs := (Y1).size
        obtain ⟨g, hg⟩ : ∃ g, g = (y1 : World).heap.size := ⟨_, rfl⟩
        rw [← hg] at BG hgs ⊢
        generalize (y1 : World).alloc (.cells #[.slice none 0 0, .slice none 0 0] 25) = y7 at *
        refine hK _ _ Y7 ?_
        clear K hK hg
        refine wpTO_do (by rfl) ?_
        intro K hK
        go_simp
        refine Calls.mono (tb_conds _ _ _ _) ?_
        rintro e y8 ⟨rfl, hx⟩
        have Y8 := Ext.then Y7 hx
        replace V := TbV.keep V (hx)
        replace RL := Rd.keep RL (hx)
        replace BG := Blk.keep BG (hx)
        refine hK _ _ Y8 ?_
        clear K hK hx
        refine wpTO_do (by rfl) ?_
        intro K hK
        go_simp
        have lgb := BG.lt
        refine Calls.mono (bgc_keep _ _ _ _ V RL) ?_
        rintro e y9 ⟨v', rfl, hl, hx⟩
        obtain ⟨A1, n1, c1, D1, m1, d1, rfl⟩ := hl.V.shape
        have Y9 := Ext.then Y8 hx
        replace V := TbV.keep V (hx)
        replace RL := Rd.keep RL (hx)
        replace BG := Blk.keep BG (hx)
        have VO := hl
        have hgb := lgb
        refine hK _ _ Y9 ?_
        clear K hK hx hl
        repeat (refine wpTO_val (by rfl) ?_; intro K hK; go_big_quiet_op; go_big_quiet_on)
        have q0 := BG.cell 0
        have q1 := BG.cell 1
        have f0 := BG.frozen 0
        have f1 := BG.frozen 1
        refine wpTO_do (by rfl) ?_
        intro K hK
        go_simp
        refine hK _ _ (Ext.put (Ext.put Y9 (p := ⟨g, 0, none⟩) hgs (.slice A1 n1 c1)) (p := ⟨g, 1, none⟩) hgs (.slice D1 m1 d1)) ?_
        clear K hK
        repeat (refine wpTO_val (by rfl) ?_; intro K hK; go_big_quiet_op; go_big_quiet_on)
        refine wpTO_nil ?_
        refine ⟨rfl, gx, g, A1, n1, c1, D1, m1, d1, rfl, hid (Ext.put (Ext.put Y9 (p := ⟨g, 0, none⟩) hgs (.slice A1 n1 c1)) (p := ⟨g, 1, none⟩) hgs (.slice D1 m1 d1)), hid (((BG.set 0 (.slice A1 n1 c1)).set 1 (.slice D1 m1 d1)).cast (by simp)), hid (((VO.put (p := ⟨g, 0, none⟩) hgb _).put (p := ⟨g, 1, none⟩) hgb _).V)⟩
    · refine wpTO_do (by rfl) ?_
      intro K hK
      go_simp
      replace V := TbV.keep V (Ext.new (ext_refl y0) (.cells #[.slice none 0 0, .slice none 0 0] 25))
      have BG := Blk.new y0 25 #[.slice none 0 0, .slice none 0 0]
      have Y10 := Ext.new Y0 (.cells #[.slice none 0 0, .slice none 0 0] 25)
      have hgs := (Y0).size
      obtain ⟨g, hg⟩ : ∃ g, g = (y0 : World).heap.size := ⟨_, rfl⟩
      rw [← hg] at BG hgs ⊢
      generalize (y0 : World).alloc (.cells #[.slice none 0 0, .slice none 0 0] 25) = y10 at *
      refine hK _ _ Y10 ?_
      clear K hK hg
      refine wpTO_do (by rfl) ?_
      intro K hK
      go_simp
      replace V := TbV.keep V (Ext.new (ext_refl y10) (.cells #[.int .i64 4, .int .i64 1, .int .i64 0, .int .u64 0, .string ⟨#[]⟩] 58))
      replace BG := Blk.keep BG (Ext.new (ext_refl y10) (.cells #[.int .i64 4, .int .i64 1, .int .i64 0, .int .u64 0, .string ⟨#[]⟩] 58))
      have RL : Rd (y10.alloc (.cells #[.int .i64 4, .int .i64 1, .int .i64 0, .int .u64 0, .string ⟨#[]⟩] 58)) (some ⟨y10.heap.size, 0, none⟩) (cns Tb.pGone) := rd_lit rfl rfl
      have Y11 := Ext.new Y10 (.cells #[.int .i64 4, .int .i64 1, .int .i64 0, .int .u64 0, .string ⟨#[]⟩] 58)
      generalize y10.alloc (.cells #[.int .i64 4, .int .i64 1, .int .i64 0, .int .u64 0, .string ⟨#[]⟩] 58) = y11 at *
      generalize y10.heap.size = gx at *
      refine hK _ _ Y11 ?_
      clear K hK
      refine wpTO_do (by rfl) ?_
      intro K hK
      go_simp
      refine Calls.mono (tb_conds _ _ _ _) ?_
      rintro e y12 ⟨rfl, hx⟩
      have Y12 := Ext.then Y11 hx
      replace V := TbV.keep V (hx)
      replace BG := Blk.keep BG (hx)
      replace RL := Rd.keep RL (hx)
      refine hK _ _ Y12 ?_
      clear K hK hx
      refine wpTO_do (by rfl) ?_
      intro K hK
      go_simp
      have lgb := BG.lt
      refine Calls.mono (bgc_keep _ _ _ _ V RL) ?_
      rintro e y13 ⟨v', rfl, hl, hx⟩
      obtain ⟨A1, n1, c1, D1, m1, d1, rfl⟩ := hl.V.shape
      have Y13 := Ext.then Y12 hx
      replace V := TbV.keep V (hx)
      replace BG := Blk.keep BG (hx)
      replace RL := Rd.keep RL (hx)
      have VO := hl
      have hgb := lgb
      refine hK _ _ Y13 ?_
      clear K hK hx hl
      repeat (refine wpTO_val (by rfl) ?_; intro K hK; go_big_quiet_op; go_big_quiet_on)
      have q0 := BG.cell 0
      have q1 := BG.cell 1
      have f0 := BG.frozen 0
      have f1 := BG.frozen 1
      refine wpTO_do (by rfl) ?_
      intro K hK
      go_simp
      refine hK _ _ (Ext.put (Ext.put Y13 (p := ⟨g, 0, none⟩) hgs (.slice A1 n1 c1)) (p := ⟨g, 1, none⟩) hgs (.slice D1 m1 d1)) ?_
      clear K hK
      repeat (refine wpTO_val (by rfl) ?_; intro K hK; go_big_quiet_op; go_big_quiet_on)
      refine wpTO_nil ?_
      refine ⟨rfl, gx, g, A1, n1, c1, D1, m1, d1, rfl, hid (Ext.put (Ext.put Y13 (p := ⟨g, 0, none⟩) hgs (.slice A1 n1 c1)) (p := ⟨g, 1, none⟩) hgs (.slice D1 m1 d1)), hid (((BG.set 0 (.slice A1 n1 c1)).set 1 (.slice D1 m1 d1)).cast (by simp)), hid (((VO.put (p := ⟨g, 0, none⟩) hgb _).put (p := ⟨g, 1, none⟩) hgb _).V)⟩
  rintro x3 g3 A3 n3 c3 D3 m3 d3 w3' ⟨XQ, B3, V3⟩
  replace X := hid (X.out.then XQ.out)
  clear XQ
  have p0 := B3.out.cell 0
  have p1 := B3.out.cell 1
  go_wp2_with fail
  refine Calls.mono (bgc_ren _ _ V3.out) ?_
  rintro e w8 ⟨v', rfl, hl, hx⟩
  obtain ⟨A4, n4, c4, D4, m4, d4, rfl⟩ := hl.V.shape
  have hn := Ext.new (ext_refl w8) (.cells #[.slice A4 n4 c4, .slice D4 m4 d4] 25)
  have B4 := hid (Blk.new w8 25 #[.slice A4 n4 c4, .slice D4 m4 d4])
  have V4 := hid (hl.V.keep hn)
  have hy := Ext.then (hx) hn
  replace X := hid (X.out.then hy)
  clear hx hl hn hy p0 p1 B3 V3
  go_upto_region 6 with fail
  generalize w8.alloc (.cells #[.slice A4 n4 c4, .slice D4 m4 d4] 25) = wb at *
  generalize w8.heap.size = gb at *
  apply wp_cutTb (F := fun x g A1 n1 c1 D1 m1 d1 w' => Hid (Ext wb w') ∧ Hid (Blk w' g 25 #[.slice A1 n1 c1, .slice D1 m1 d1]) ∧ Hid (TbV w' (.agg #[.slice A1 n1 c1, .slice D1 m1 d1]) Tb.T5))
  case h1 =>
    have p0 := B4.out.cell 0
    have p1 := B4.out.cell 1
    have p0r := cell_regrown p0
    have p1r := cell_regrown p1
    have V : TbV wb _ Tb.T4 := V4.out
    refine wp_region_tree (.one 0 true (.two 1 7 (.two 2 7 (.two 3 7 (.one 4 true (.one 5 true (.one 6 true (.one 7 false (.one 8 false (.one 9 true (.nil))))))) (.one 3 false (.one 4 true (.one 5 true (.one 6 true (.one 8 false (.one 9 true (.nil)))))))) (.one 2 false (.one 3 false (.one 4 true (.one 5 true (.one 6 true (.one 8 false (.one 9 true (.nil))))))))) (.one 1 false (.one 2 false (.one 3 false (.one 4 true (.one 5 true (.one 6 true (.one 8 false (.one 9 true (.nil))))))))))) (by kernel_rfl) (by kernel_rfl) (by rintro _ _ _ _ _ ⟨h, _⟩; cases h) (by kernel_rfl) (by rfl) ?_
    simp only [fillT, List.getD_cons_zero, List.getD_cons_succ]
    have Y0 : Ext wb wb.drew := (ext_refl wb).draw
    replace V := TbV.keep V (Y0)
    generalize wb.drew = y0 at *
    repeat (refine wpTO_val (by rfl) ?_; intro K hK; go_big_quiet_op; go_big_quiet_on)
    refine wpTO_two ?_ ?_
    · refine wpTO_do (by rfl) ?_
      intro K hK
      go_simp
      replace V := TbV.keep V (Ext.new (ext_refl y0) (.cells #[.string ⟨#[110, 111, 116, 101]⟩, .string ⟨#[107, 101, 121]⟩] 9))
      have RL : Rd (y0.alloc (.cells #[.string ⟨#[110, 111, 116, 101]⟩, .string ⟨#[107, 101, 121]⟩] 9)) (some ⟨y0.heap.size, 0, none⟩) (txs Tb.nTwo) := rd_lit rfl rfl
      have Y1 := Ext.new Y0 (.cells #[.string ⟨#[110, 111, 116, 101]⟩, .string ⟨#[107, 101, 121]⟩] 9)
      generalize y0.alloc (.cells #[.string ⟨#[110, 111, 116, 101]⟩, .string ⟨#[107, 101, 121]⟩] 9) = y1 at *
      generalize y0.heap.size = gx at *
      refine hK _ _ Y1 ?_
      clear K hK
      refine wpTO_two ?_ ?_
      · refine wpTO_do (by rfl) ?_
        intro K hK
        go_simp
        refine Calls.mono (tb_texts _ _ _ _) ?_
        rintro e y2 ⟨rfl, hx⟩
        have Y2 := Ext.then Y1 hx
        replace V := TbV.keep V (hx)
        replace RL := Rd.keep RL (hx)
        refine hK _ _ Y2 ?_
        clear K hK hx
        refine wpTO_two ?_ ?_
        · refine wpTO_do (by rfl) ?_
          intro K hK
          go_simp
          refine Calls.mono (bgc_proj _ _ _ V RL) ?_
          rintro e y3 ⟨v', rfl, hl, hx⟩
          obtain ⟨A1, n1, c1, D1, m1, d1, rfl⟩ := hl.V.shape
          have Y3 := Ext.then Y2 hx
          replace V := TbV.keep V (hx)
          replace RL := Rd.keep RL (hx)
          have VO := hl.V
          have XC := ext_refl y3
          refine hK _ _ Y3 ?_
          clear K hK hx hl
          repeat (refine wpTO_val (by rfl) ?_; intro K hK; go_big_quiet_op; go_big_quiet_on)
          refine wpTO_do (by rfl) ?_
          intro K hK
          go_simp
          have XC0 := XC
          replace V := TbV.keep V (Ext.new (ext_refl y3) (.cells #[.slice none 0 0, .slice none 0 0] 25))
          replace RL := Rd.keep RL (Ext.new (ext_refl y3) (.cells #[.slice none 0 0, .slice none 0 0] 25))
          replace XC := Ext.then XC (Ext.new (ext_refl y3) (.cells #[.slice none 0 0, .slice none 0 0] 25))
          have BG := Blk.new y3 25 #[.slice none 0 0, .slice none 0 0]
          have Y4 := Ext.new Y3 (.cells #[.slice none 0 0, .slice none 0 0] 25)
          have hgs := (Y3).size
          obtain ⟨g, hg⟩ : ∃ g, g = (y3 : World).heap.size := ⟨_, rfl⟩
          have hgv : y3.heap.size ≤ g := by rw [hg]; exact XC0.size
          rw [← hg] at BG hgs ⊢
          generalize (y3 : World).alloc (.cells #[.slice none 0 0, .slice none 0 0] 25) = y4 at *
          refine hK _ _ Y4 ?_
          clear K hK hg
          have q0 := BG.cell 0
          have q1 := BG.cell 1
          have f0 := BG.frozen 0
          have f1 := BG.frozen 1
          refine wpTO_do (by rfl) ?_
          intro K hK
          go_simp
          refine hK _ _ (Ext.put (Ext.put Y4 (p := ⟨g, 0, none⟩) hgs (.slice A1 n1 c1)) (p := ⟨g, 1, none⟩) hgs (.slice D1 m1 d1)) ?_
          clear K hK
          repeat (refine wpTO_val (by rfl) ?_; intro K hK; go_big_quiet_op; go_big_quiet_on)
          refine wpTO_nil ?_
          refine ⟨rfl, gx, g, A1, n1, c1, D1, m1, d1, rfl, hid (Ext.put (Ext.put Y4 (p := ⟨g, 0, none⟩) hgs (.slice A1 n1 c1)) (p := ⟨g, 1, none⟩) hgs (.slice D1 m1 d1)), hid (((BG.set 0 (.slice A1 n1 c1)).set 1 (.slice D1 m1 d1)).cast (by simp)), hid (VO.keep (Ext.put (Ext.put XC (p := ⟨g, 0, none⟩) hgv _) (p := ⟨g, 1, none⟩) hgv _))⟩
        · refine wpTO_do (by rfl) ?_
          intro K hK
          go_simp
          replace V := TbV.keep V (Ext.new (ext_refl y2) (.cells #[.slice none 0 0, .slice none 0 0] 25))
          replace RL := Rd.keep RL (Ext.new (ext_refl y2) (.cells #[.slice none 0 0, .slice none 0 0] 25))
          have BG := Blk.new y2 25 #[.slice none 0 0, .slice none 0 0]
          have Y5 := Ext.new Y2 (.cells #[.slice none 0 0, .slice none 0 0] 25)
          have hgs := (Y2).size
          obtain ⟨g, hg⟩ : ∃ g, g = (y2 : World).heap.size := ⟨_, rfl⟩
          rw [← hg] at BG hgs ⊢
          generalize (y2 : World).alloc (.cells #[.slice none 0 0, .slice none 0 0] 25) = y5 at *
          refine hK _ _ Y5 ?_
          clear K hK hg
          refine wpTO_do (by rfl) ?_
          intro K hK
          go_simp
          have lgb := BG.lt
          refine Calls.mono (bgc_proj _ _ _ V RL) ?_
          rintro e y6 ⟨v', rfl, hl, hx⟩
          obtain ⟨A1, n1, c1, D1, m1, d1, rfl⟩ := hl.V.shape
          have Y6 := Ext.then Y5 hx
          replace V := TbV.keep V (hx)
          replace RL := Rd.keep RL (hx)
          replace BG := Blk.keep BG (hx)
          have VO := hl
          have hgb := lgb
          refine hK _ _ Y6 ?_
          clear K hK hx hl
          repeat (refine wpTO_val (by rfl) ?_; intro K hK; go_big_quiet_op; go_big_quiet_on)
          have q0 := BG.cell 0
          have q1 := BG.cell 1
          have f0 := BG.frozen 0
          have f1 := BG.frozen 1
          refine wpTO_do (by rfl) ?_
          intro K hK
          go_simp
          refine hK _ _ (Ext.put (Ext.put Y6 (p := ⟨g, 0, none⟩) hgs (.slice A1 n1 c1)) (p := ⟨g, 1, none⟩) hgs (.slice D1 m1 d1)) ?_
          clear K hK
          repeat (refine wpTO_val (by rfl) ?_; intro K hK; go_big_quiet_op; go_big_quiet_on)
          refine wpTO_nil ?_
          refine ⟨rfl, gx, g, A1, n1, c1, D1, m1, d1, rfl, hid (Ext.put (Ext.put Y6 (p := ⟨g, 0, none⟩) hgs (.slice A1 n1 c1)) (p := ⟨g, 1, none⟩) hgs (.slice D1 m1 d1)), hid (((BG.set 0 (.slice A1 n1 c1)).set 1 (.slice D1 m1 d1)).cast (by simp)), hid (((VO.put (p := ⟨g, 0, none⟩) hgb _).put (p := ⟨g, 1, none⟩) hgb _).V)⟩
      · refine wpTO_do (by rfl) ?_
        intro K hK
        go_simp
        replace V := TbV.keep V (Ext.new (ext_refl y1) (.cells #[.slice none 0 0, .slice none 0 0] 25))
        replace RL := Rd.keep RL (Ext.new (ext_refl y1) (.cells #[.slice none 0 0, .slice none 0 0] 25))
        have BG := Blk.new y1 25 #[.slice none 0 0, .slice none 0 0]
        have Y7 := Ext.new Y1 (.cells #[.slice none 0 0, .slice none 0 0] 25)
        have hgs := (Y1).size
        obtain ⟨g, hg⟩ : ∃ g, g = (y1 : World).heap.size := ⟨_, rfl⟩
        rw [← hg] at BG hgs ⊢
        generalize (y1 : World).alloc (.cells #[.slice none 0 0, .slice none 0 0] 25) = y7 at *
        refine hK _ _ Y7 ?_
        clear K hK hg
        refine wpTO_do (by rfl) ?_
        intro K hK
        go_simp
        refine Calls.mono (tb_texts _ _ _ _) ?_
        rintro e y8 ⟨rfl, hx⟩
        have Y8 := Ext.then Y7 hx
        replace V := TbV.keep V (hx)
        replace RL := Rd.keep RL (hx)
        replace BG := Blk.keep BG (hx)
        refine hK _ _ Y8 ?_
        clear K hK hx
        refine wpTO_do (by rfl) ?_
        intro K hK
        go_simp
        have lgb := BG.lt
        refine Calls.mono (bgc_proj _ _ _ V RL) ?_
        rintro e y9 ⟨v', rfl, hl, hx⟩
        obtain ⟨A1, n1, c1, D1, m1, d1, rfl⟩ := hl.V.shape
        have Y9 := Ext.then Y8 hx
        replace V := TbV.keep V (hx)
        replace RL := Rd.keep RL (hx)
        replace BG := Blk.keep BG (hx)
        have VO := hl
        have hgb := lgb
        refine hK _ _ Y9 ?_
        clear K hK hx hl
        repeat (refine wpTO_val (by rfl) ?_; intro K hK; go_big_quiet_op; go_big_quiet_on)
        have q0 := BG.cell 0
        have q1 := BG.cell 1
        have f0 := BG.frozen 0
        have f1 := BG.frozen 1
        refine wpTO_do (by rfl) ?_
        intro K hK
        go_simp
        refine hK _ _ (Ext.put (Ext.put Y9 (p := ⟨g, 0, none⟩) hgs (.slice A1 n1 c1)) (p := ⟨g, 1, none⟩) hgs (.slice D1 m1 d1)) ?_
        clear K hK
        repeat (refine wpTO_val (by rfl) ?_; intro K hK; go_big_quiet_op; go_big_quiet_on)
        refine wpTO_nil ?_
        refine ⟨rfl, gx, g, A1, n1, c1, D1, m1, d1, rfl, hid (Ext.put (Ext.put Y9 (p := ⟨g, 0, none⟩) hgs (.slice A1 n1 c1)) (p := ⟨g, 1, none⟩) hgs (.slice D1 m1 d1)), hid (((BG.set 0 (.slice A1 n1 c1)).set 1 (.slice D1 m1 d1)).cast (by simp)), hid (((VO.put (p := ⟨g, 0, none⟩) hgb _).put (p := ⟨g, 1, none⟩) hgb _).V)⟩
    · refine wpTO_do (by rfl) ?_
      intro K hK
      go_simp
      replace V := TbV.keep V (Ext.new (ext_refl y0) (.cells #[.slice none 0 0, .slice none 0 0] 25))
      have BG := Blk.new y0 25 #[.slice none 0 0, .slice none 0 0]
      have Y10 := Ext.new Y0 (.cells #[.slice none 0 0, .slice none 0 0] 25)
      have hgs := (Y0).size
      obtain ⟨g, hg⟩ : ∃ g, g = (y0 : World).heap.size := ⟨_, rfl⟩
      rw [← hg] at BG hgs ⊢
      generalize (y0 : World).alloc (.cells #[.slice none 0 0, .slice none 0 0] 25) = y10 at *
      refine hK _ _ Y10 ?_
      clear K hK hg
      refine wpTO_do (by rfl) ?_
      intro K hK
      go_simp
      replace V := TbV.keep V (Ext.new (ext_refl y10) (.cells #[.string ⟨#[110, 111, 116, 101]⟩, .string ⟨#[107, 101, 121]⟩] 9))
      replace BG := Blk.keep BG (Ext.new (ext_refl y10) (.cells #[.string ⟨#[110, 111, 116, 101]⟩, .string ⟨#[107, 101, 121]⟩] 9))
      have RL : Rd (y10.alloc (.cells #[.string ⟨#[110, 111, 116, 101]⟩, .string ⟨#[107, 101, 121]⟩] 9)) (some ⟨y10.heap.size, 0, none⟩) (txs Tb.nTwo) := rd_lit rfl rfl
      have Y11 := Ext.new Y10 (.cells #[.string ⟨#[110, 111, 116, 101]⟩, .string ⟨#[107, 101, 121]⟩] 9)
      generalize y10.alloc (.cells #[.string ⟨#[110, 111, 116, 101]⟩, .string ⟨#[107, 101, 121]⟩] 9) = y11 at *
      generalize y10.heap.size = gx at *
      refine hK _ _ Y11 ?_
      clear K hK
      refine wpTO_do (by rfl) ?_
      intro K hK
      go_simp
      refine Calls.mono (tb_texts _ _ _ _) ?_
      rintro e y12 ⟨rfl, hx⟩
      have Y12 := Ext.then Y11 hx
      replace V := TbV.keep V (hx)
      replace BG := Blk.keep BG (hx)
      replace RL := Rd.keep RL (hx)
      refine hK _ _ Y12 ?_
      clear K hK hx
      refine wpTO_do (by rfl) ?_
      intro K hK
      go_simp
      have lgb := BG.lt
      refine Calls.mono (bgc_proj _ _ _ V RL) ?_
      rintro e y13 ⟨v', rfl, hl, hx⟩
      obtain ⟨A1, n1, c1, D1, m1, d1, rfl⟩ := hl.V.shape
      have Y13 := Ext.then Y12 hx
      replace V := TbV.keep V (hx)
      replace BG := Blk.keep BG (hx)
      replace RL := Rd.keep RL (hx)
      have VO := hl
      have hgb := lgb
      refine hK _ _ Y13 ?_
      clear K hK hx hl
      repeat (refine wpTO_val (by rfl) ?_; intro K hK; go_big_quiet_op; go_big_quiet_on)
      have q0 := BG.cell 0
      have q1 := BG.cell 1
      have f0 := BG.frozen 0
      have f1 := BG.frozen 1
      refine wpTO_do (by rfl) ?_
      intro K hK
      go_simp
      refine hK _ _ (Ext.put (Ext.put Y13 (p := ⟨g, 0, none⟩) hgs (.slice A1 n1 c1)) (p := ⟨g, 1, none⟩) hgs (.slice D1 m1 d1)) ?_
      clear K hK
      repeat (refine wpTO_val (by rfl) ?_; intro K hK; go_big_quiet_op; go_big_quiet_on)
      refine wpTO_nil ?_
      refine ⟨rfl, gx, g, A1, n1, c1, D1, m1, d1, rfl, hid (Ext.put (Ext.put Y13 (p := ⟨g, 0, none⟩) hgs (.slice A1 n1 c1)) (p := ⟨g, 1, none⟩) hgs (.slice D1 m1 d1)), hid (((BG.set 0 (.slice A1 n1 c1)).set 1 (.slice D1 m1 d1)).cast (by simp)), hid (((VO.put (p := ⟨g, 0, none⟩) hgb _).put (p := ⟨g, 1, none⟩) hgb _).V)⟩
  rintro x5 g5 A5 n5 c5 D5 m5 d5 w5' ⟨XQ, B5, V5⟩
  replace X := hid (X.out.then XQ.out)
  clear XQ
  have p0 := B5.out.cell 0
  have p1 := B5.out.cell 1
  go_wp2_with fail
  refine Calls.mono (bgc_row _ _ V5.out) ?_
  rintro e w9 ⟨AR, cR, rfl, hr, hx⟩
  have RR := hid hr
  replace X := hid (X.out.then hx)
  clear hx hr p0 p1 B5 V5
  go_wp2_with fail
  refine Calls.mono (birds_any _) ?_
  rintro e w10 ⟨v', rfl, hl, hx⟩
  obtain ⟨A0, n0, c0, D0, m0, d0, rfl⟩ := hl.V.shape
  have V0 := hid hl.V
  replace X := hid (X.out.then hx)
  replace RR := hid (RR.out.keep hx)
  clear hx hl
  go_wp2_with fail
  refine Calls.mono (bgc_slice _ _ V0.out) ?_
  rintro e w11 ⟨v', rfl, hl, hx⟩
  obtain ⟨A6, n6, c6, D6, m6, d6, rfl⟩ := hl.V.shape
  have hn := Ext.new (ext_refl w11) (.cells #[.slice A6 n6 c6, .slice D6 m6 d6] 25)
  have B6 := hid (Blk.new w11 25 #[.slice A6 n6 c6, .slice D6 m6 d6])
  have V6 := hid (hl.V.keep hn)
  have hy := Ext.then (hx) hn
  replace X := hid (X.out.then hy)
  replace RR := hid (RR.out.keep hy)
  clear hx hl hn hy
  clear V0
  go_upto_region 9 with fail
  generalize w11.alloc (.cells #[.slice A6 n6 c6, .slice D6 m6 d6] 25) = wc at *
  generalize w11.heap.size = gc at *
  apply wp_cutTc (F := fun b1 b2 b3 b4 b5 b6 g A1 n1 c1 D1 m1 d1 w' => Hid (Ext wc w') ∧ Hid (Blk w' g 25 #[.slice A1 n1 c1, .slice D1 m1 d1]) ∧ Hid (TbV w' (.agg #[.slice A1 n1 c1, .slice D1 m1 d1]) Tb.T7))
  case h1 =>
    obtain ⟨gx, _⟩ : ∃ x : Nat, x = 0 := ⟨0, rfl⟩
    have p0 := B6.out.cell 0
    have p1 := B6.out.cell 1
    have p0r := cell_regrown p0
    have p1r := cell_regrown p1
    have V : TbV wc _ Tb.T6 := V6.out
    refine wp_region_tree (.one 0 true (.two 1 6 (.two 2 6 (.one 3 true (.one 4 true (.one 5 true (.one 6 false (.one 7 false (.one 8 true (.nil))))))) (.one 2 false (.one 3 true (.one 4 true (.one 5 true (.one 7 false (.one 8 true (.nil)))))))) (.one 1 false (.one 2 false (.one 3 true (.one 4 true (.one 5 true (.one 7 false (.one 8 true (.nil)))))))))) (by kernel_rfl) (by kernel_rfl) (by rintro _ _ _ _ _ ⟨h, _⟩; cases h) (by kernel_rfl) (by rfl) ?_
    simp only [fillT, List.getD_cons_zero, List.getD_cons_succ]
    have Y0 : Ext wc wc.drew := (ext_refl wc).draw
    replace V := TbV.keep V (Y0)
    generalize wc.drew = y0 at *
    repeat (refine wpTO_val (by rfl) ?_; intro K hK; go_big_quiet_op; go_big_quiet_on)
    refine wpTO_two ?_ ?_
    · refine wpTO_do (by rfl) ?_
      intro K hK
      go_simp
      refine Calls.mono (birds_any _) ?_
      rintro e y1 ⟨v', rfl, hl, hx⟩
      obtain ⟨A1b, n1b, c1b, D1b, m1b, d1b, rfl⟩ := hl.V.shape
      have Y1 := Ext.then Y0 hx
      replace V := TbV.keep V (hx)
      have Vb := hl.V
      refine hK _ _ Y1 ?_
      clear K hK hx hl
      refine wpTO_two ?_ ?_
      · refine wpTO_do (by rfl) ?_
        intro K hK
        go_simp
        refine Calls.mono (bgc_app _ _ _ V Vb) ?_
        rintro e y2 ⟨v', rfl, hl, hx⟩
        obtain ⟨A1, n1, c1, D1, m1, d1, rfl⟩ := hl.V.shape
        have Y2 := Ext.then Y1 hx
        replace V := TbV.keep V (hx)
        replace Vb := TbV.keep Vb (hx)
        have VO := hl.V
        have XC := ext_refl y2
        refine hK _ _ Y2 ?_
        clear K hK hx hl
        repeat (refine wpTO_val (by rfl) ?_; intro K hK; go_big_quiet_op; go_big_quiet_on)
        refine wpTO_do (by rfl) ?_
        intro K hK
        go_simp
        have XC0 := XC
        replace V := TbV.keep V (Ext.new (ext_refl y2) (.cells #[.slice none 0 0, .slice none 0 0] 25))
        replace Vb := TbV.keep Vb (Ext.new (ext_refl y2) (.cells #[.slice none 0 0, .slice none 0 0] 25))
        replace XC := Ext.then XC (Ext.new (ext_refl y2) (.cells #[.slice none 0 0, .slice none 0 0] 25))
        have BG := Blk.new y2 25 #[.slice none 0 0, .slice none 0 0]
        have Y3 := Ext.new Y2 (.cells #[.slice none 0 0, .slice none 0 0] 25)
        have hgs := (Y2).size
        obtain ⟨g, hg⟩ : ∃ g, g = (y2 : World).heap.size := ⟨_, rfl⟩
        have hgv : y2.heap.size ≤ g := by rw [hg]; exact XC0.size
        rw [← hg] at BG hgs ⊢
        generalize (y2 : World).alloc (.cells #[.slice none 0 0, .slice none 0 0] 25) = y3 at *
        refine hK _ _ Y3 ?_
        clear K hK hg
        have q0 := BG.cell 0
        have q1 := BG.cell 1
        have f0 := BG.frozen 0
        have f1 := BG.frozen 1
        refine wpTO_do (by rfl) ?_
        intro K hK
        go_simp
        refine hK _ _ (Ext.put (Ext.put Y3 (p := ⟨g, 0, none⟩) hgs (.slice A1 n1 c1)) (p := ⟨g, 1, none⟩) hgs (.slice D1 m1 d1)) ?_
        clear K hK
        repeat (refine wpTO_val (by rfl) ?_; intro K hK; go_big_quiet_op; go_big_quiet_on)
        refine wpTO_nil ?_
        refine ⟨rfl, A1b, n1b, c1b, D1b, m1b, d1b, g, A1, n1, c1, D1, m1, d1, rfl, hid (Ext.put (Ext.put Y3 (p := ⟨g, 0, none⟩) hgs (.slice A1 n1 c1)) (p := ⟨g, 1, none⟩) hgs (.slice D1 m1 d1)), hid (((BG.set 0 (.slice A1 n1 c1)).set 1 (.slice D1 m1 d1)).cast (by simp)), hid (VO.keep (Ext.put (Ext.put XC (p := ⟨g, 0, none⟩) hgv _) (p := ⟨g, 1, none⟩) hgv _))⟩
      · refine wpTO_do (by rfl) ?_
        intro K hK
        go_simp
        replace V := TbV.keep V (Ext.new (ext_refl y1) (.cells #[.slice none 0 0, .slice none 0 0] 25))
        replace Vb := TbV.keep Vb (Ext.new (ext_refl y1) (.cells #[.slice none 0 0, .slice none 0 0] 25))
        have BG := Blk.new y1 25 #[.slice none 0 0, .slice none 0 0]
        have Y4 := Ext.new Y1 (.cells #[.slice none 0 0, .slice none 0 0] 25)
        have hgs := (Y1).size
        obtain ⟨g, hg⟩ : ∃ g, g = (y1 : World).heap.size := ⟨_, rfl⟩
        rw [← hg] at BG hgs ⊢
        generalize (y1 : World).alloc (.cells #[.slice none 0 0, .slice none 0 0] 25) = y4 at *
        refine hK _ _ Y4 ?_
        clear K hK hg
        refine wpTO_do (by rfl) ?_
        intro K hK
        go_simp
        have lgb := BG.lt
        refine Calls.mono (bgc_app _ _ _ V Vb) ?_
        rintro e y5 ⟨v', rfl, hl, hx⟩
        obtain ⟨A1, n1, c1, D1, m1, d1, rfl⟩ := hl.V.shape
        have Y5 := Ext.then Y4 hx
        replace V := TbV.keep V (hx)
        replace Vb := TbV.keep Vb (hx)
        replace BG := Blk.keep BG (hx)
        have VO := hl
        have hgb := lgb
        refine hK _ _ Y5 ?_
        clear K hK hx hl
        repeat (refine wpTO_val (by rfl) ?_; intro K hK; go_big_quiet_op; go_big_quiet_on)
        have q0 := BG.cell 0
        have q1 := BG.cell 1
        have f0 := BG.frozen 0
        have f1 := BG.frozen 1
        refine wpTO_do (by rfl) ?_
        intro K hK
        go_simp
        refine hK _ _ (Ext.put (Ext.put Y5 (p := ⟨g, 0, none⟩) hgs (.slice A1 n1 c1)) (p := ⟨g, 1, none⟩) hgs (.slice D1 m1 d1)) ?_
        clear K hK
        repeat (refine wpTO_val (by rfl) ?_; intro K hK; go_big_quiet_op; go_big_quiet_on)
        refine wpTO_nil ?_
        refine ⟨rfl, A1b, n1b, c1b, D1b, m1b, d1b, g, A1, n1, c1, D1, m1, d1, rfl, hid (Ext.put (Ext.put Y5 (p := ⟨g, 0, none⟩) hgs (.slice A1 n1 c1)) (p := ⟨g, 1, none⟩) hgs (.slice D1 m1 d1)), hid (((BG.set 0 (.slice A1 n1 c1)).set 1 (.slice D1 m1 d1)).cast (by simp)), hid (((VO.put (p := ⟨g, 0, none⟩) hgb _).put (p := ⟨g, 1, none⟩) hgb _).V)⟩
    · refine wpTO_do (by rfl) ?_
      intro K hK
      go_simp
      replace V := TbV.keep V (Ext.new (ext_refl y0) (.cells #[.slice none 0 0, .slice none 0 0] 25))
      have BG := Blk.new y0 25 #[.slice none 0 0, .slice none 0 0]
      have Y6 := Ext.new Y0 (.cells #[.slice none 0 0, .slice none 0 0] 25)
      have hgs := (Y0).size
      obtain ⟨g, hg⟩ : ∃ g, g = (y0 : World).heap.size := ⟨_, rfl⟩
      rw [← hg] at BG hgs ⊢
      generalize (y0 : World).alloc (.cells #[.slice none 0 0, .slice none 0 0] 25) = y6 at *
      refine hK _ _ Y6 ?_
      clear K hK hg
      refine wpTO_do (by rfl) ?_
      intro K hK
      go_simp
      refine Calls.mono (birds_any _) ?_
      rintro e y7 ⟨v', rfl, hl, hx⟩
      obtain ⟨A1b, n1b, c1b, D1b, m1b, d1b, rfl⟩ := hl.V.shape
      have Y7 := Ext.then Y6 hx
      replace V := TbV.keep V (hx)
      replace BG := Blk.keep BG (hx)
      have Vb := hl.V
      refine hK _ _ Y7 ?_
      clear K hK hx hl
      refine wpTO_do (by rfl) ?_
      intro K hK
      go_simp
      have lgb := BG.lt
      refine Calls.mono (bgc_app _ _ _ V Vb) ?_
      rintro e y8 ⟨v', rfl, hl, hx⟩
      obtain ⟨A1, n1, c1, D1, m1, d1, rfl⟩ := hl.V.shape
      have Y8 := Ext.then Y7 hx
      replace V := TbV.keep V (hx)
      replace BG := Blk.keep BG (hx)
      replace Vb := TbV.keep Vb (hx)
      have VO := hl
      have hgb := lgb
      refine hK _ _ Y8 ?_
      clear K hK hx hl
      repeat (refine wpTO_val (by rfl) ?_; intro K hK; go_big_quiet_op; go_big_quiet_on)
      have q0 := BG.cell 0
      have q1 := BG.cell 1
      have f0 := BG.frozen 0
      have f1 := BG.frozen 1
      refine wpTO_do (by rfl) ?_
      intro K hK
      go_simp
      refine hK _ _ (Ext.put (Ext.put Y8 (p := ⟨g, 0, none⟩) hgs (.slice A1 n1 c1)) (p := ⟨g, 1, none⟩) hgs (.slice D1 m1 d1)) ?_
      clear K hK
      repeat (refine wpTO_val (by rfl) ?_; intro K hK; go_big_quiet_op; go_big_quiet_on)
      refine wpTO_nil ?_
      refine ⟨rfl, A1b, n1b, c1b, D1b, m1b, d1b, g, A1, n1, c1, D1, m1, d1, rfl, hid (Ext.put (Ext.put Y8 (p := ⟨g, 0, none⟩) hgs (.slice A1 n1 c1)) (p := ⟨g, 1, none⟩) hgs (.slice D1 m1 d1)), hid (((BG.set 0 (.slice A1 n1 c1)).set 1 (.slice D1 m1 d1)).cast (by simp)), hid (((VO.put (p := ⟨g, 0, none⟩) hgb _).put (p := ⟨g, 1, none⟩) hgb _).V)⟩
  rintro b17 b27 b37 b47 b57 b67 g7 A7 n7 c7 D7 m7 d7 w7' ⟨XQ, B7, V7⟩
  replace X := hid (X.out.then XQ.out)
  replace RR := hid (RR.out.keep XQ.out)
  clear XQ
  have p0 := B7.out.cell 0
  have p1 := B7.out.cell 1
  go_wp2_with fail
  refine Calls.mono (bgc_rows _ _ V7.out) ?_
  rintro e w12 ⟨rfl, hx⟩
  replace X := hid (Ext.then X.out hx)
  replace RR := hid (RR.out.keep hx)
  clear hx p0 p1 B7 V7
  go_wp2_with fail
  refine Calls.mono (tb_num 7 _) ?_
  rintro e w13 ⟨rfl, hx⟩
  replace X := hid (Ext.then X.out hx)
  replace RR := hid (RR.out.keep hx)
  clear hx
  go_wp2_with fail
  refine Calls.mono (tb_num 9 _) ?_
  rintro e w14 ⟨rfl, hx⟩
  replace X := hid (Ext.then X.out hx)
  replace RR := hid (RR.out.keep hx)
  clear hx
  go_wp2_with fail
  have N1 := hid (Ext.new (ext_refl w14) (.cells #[.int .i64 1, .int .u64 7, .string Tb.s0, .int .i64 1, .int .u64 9, .string Tb.s0] 42))
  have RS := hid (show Rd (w14.alloc (.cells #[.int .i64 1, .int .u64 7, .string Tb.s0, .int .i64 1, .int .u64 9, .string Tb.s0] 42)) (some ⟨w14.heap.size, 0, none⟩) (cls [(1, 7, Tb.s0), (1, 9, Tb.s0)]) from rd_lit rfl rfl)
  obtain ⟨gs, hgs⟩ : ∃ g, g = w14.heap.size := ⟨_, rfl⟩
  rw [← hgs] at RS ⊢
  refine Calls.mono (tb_cells _ _ _ _) ?_
  rintro e w15 ⟨rfl, hx⟩
  replace X := hid (X.out.then (N1.out.then hx))
  replace RR := hid (RR.out.keep (N1.out.then hx))
  replace RS := hid (RS.out.keep hx)
  clear hx N1 hgs
  go_wp2_with fail
  refine Calls.mono (sameCells_any [(1, 7, Tb.s0), (1, 9, Tb.s0)] [(1, 7, Tb.s0), (1, 9, Tb.s0)] _ _ 2 2 _ _ _ rfl rfl RR.out RS.out (by decide)) ?_
  rintro e w16 ⟨rfl, hx⟩
  replace X := hid (X.out.then hx)
  clear hx RR RS
  rw [show decide (([(1, 7, Tb.s0), (1, 9, Tb.s0)] : List Cel) = [(1, 7, Tb.s0), (1, 9, Tb.s0)]) = true from decide_eq_true rfl]
  go_wp2_with fail
  refine Calls.mono (birds_any _) ?_
  rintro e w17 ⟨v', rfl, hl, hx⟩
  replace X := hid (X.out.then hx)
  obtain ⟨A0, c0, D0, d0, L0, rfl, h1, h2, hL, hok, z1, z2, hc⟩ := hl.V
  have VC := hid (show TbV w17 (.agg #[.slice A0 2 c0, .slice none 0 0]) Tb.T8 from ⟨A0, c0, none, 0, [], rfl, h1, fun h => by simp [rws'] at h, rfl, (fun x hx => absurd hx List.not_mem_nil), z1, fun _ => rfl, hc⟩)
  clear hx hl h1 h2 hL hok z1 z2 hc
  rw [show Tb.T0.1.length = 2 from rfl, show Tb.T0.2.length = 2 from rfl]
  have hfd : ∀ wz : World, (Instr.field 25 (.agg #[.slice A0 2 c0, .slice D0 2 d0]) 0).run Tryz.prog wz = .ok (.slice A0 2 c0) wz := fun wz => by kernel_rfl
  go_wp2_with fail
  refine Calls.mono (tcheck_any Tb.T8 _ _ VC.out bg_B8) ?_
  rw [Tb.bg_k8]
  rintro e w18 ⟨rfl, hx⟩
  replace X := hid (X.out.then hx)
  clear hx VC
  go_wp2
  go_returns
  exact ⟨rfl, X.out⟩
end Go.Proofs.YtolhifnlahllnaaGreatDoor
end
