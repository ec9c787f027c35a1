/- TablePicks: walk (printed by gen_tzx.py). -/
import Derived.Test.YtolhifnlahllnaaGreatDoorTzi
import Derived.Test.YtolhifnlahllnaaGreatDoorTzh
import Derived.Test.YtolhifnlahllnaaGreatDoorTzd
import Derived.Test.YtolhifnlahllnaaGreatDoorTzq
namespace Hy.Tb
open Go
theorem app_B {t s : Tab} (h : Right t) (hs : Right s) : ∀ x ∈ (appT t s).2, x.length ≤ 256 := fun x hx => by
  obtain ⟨k, hk, rfl⟩ := List.mem_iff_getElem.1 hx
  have hk' : k < (List.zipWith (· ++ ·) t.2 s.2).length := hk
  rw [List.length_zipWith] at hk'
  have e : (appT t s).2[k] = t.2[k]'(by omega) ++ s.2[k]'(by omega) := by simp [appT]
  rw [e, List.length_append, h.row _ (List.getElem_mem _), hs.row _ (List.getElem_mem _)]
  have := h.lim; have := hs.lim
  omega
end Hy.Tb
namespace Go.Proofs.YtolhifnlahllnaaGreatDoor
open Go.RowKit Hy
theorem TbV.V {w : World} {v : Value} {t : Tb.Tab} (h : TbV w v t) : TbV w v t := h
theorem res_B {E : Nat} {T : Tb.Tab} (h : E = 0 → TbB T) : TbB (Tb.res E T) := by
  by_cases h0 : E = 0
  · rw [h0, Tb.res_ok]; exact h h0
  · rw [Tb.res_no h0]; exact ⟨by decide, by decide, fun x hx => absurd hx List.not_mem_nil, fun x hx => absurd hx List.not_mem_nil⟩
theorem app_BB {t s : Tb.Tab} (h : Tb.appE t s = 0) : TbB (Tb.appT t s) := by
  obtain ⟨h1, h2, h3, _⟩ := Tb.appE_ok.1 h
  have hb := Right.B h1
  refine ⟨hb.n, ?_, hb.s, fun x hx => Nat.le_trans (Tb.app_B h1 h2 x hx) (by decide)⟩
  have := hb.m
  simp only [Tb.appT, List.length_zipWith]; omega
abbrev TRl (f : Nat) (args : Array Value) (w : World) (E : Int) (T : Tb.Tab) : Prop := Calls Tryz.prog f args w fun e w' => ∃ v', e = .returned (.tuple #[v', .int .i64 E]) ∧ TbL w' w.heap.size v' T ∧ Ext w w'
abbrev TRv (f : Nat) (args : Array Value) (w : World) (E : Int) (T : Tb.Tab) : Prop := Calls Tryz.prog f args w fun e w' => ∃ v', e = .returned (.tuple #[v', .int .i64 E]) ∧ TbV w' v' T ∧ Ext w w'
set_option maxHeartbeats 25600000 in
set_option maxRecDepth 100000 in
theorem picks_nil (t o : Tb.Tab) (p : List Cnd) (l : List (List UInt8)) (x y : Int) (P N : Option Addr) (np pcap nn nc : Nat) (v u : Value) (w : World) (hv : TbV w v t) (hb : TbB t) (hu : TbV w u o) (hbo : TbB o) (hpn : p.length = np) (hp : Rd w P (cns p)) (hnl : np ≤ 140737488355328) (hcap : np ≤ pcap) (hl : l.length = nn) (hr : Rd w N (txs l)) (hnn : nn ≤ 140737488355328) (hnc : nn ≤ nc) (h0 : nn = 0) :
    Calls Tryz.prog 3 #[v, u, .slice P np pcap, .slice N nn nc, .int .i64 x, .int .i64 y] w fun e w' => e = .returned (.bool true) ∧ Ext w w' := by
  have HB := hid hb
  obtain ⟨A, n, c, B, m, d, rfl⟩ := hv.shape
  have HV0 := hid hv
  obtain ⟨A2, n2, c2, B2, m2, d2, rfl⟩ := hu.shape
  have HU0 := hid hu
  have HBO := hid hbo
  have HP := hid hp; have HN := hid hr
  subst h0
  obtain ⟨s, hs⟩ : ∃ s : ByteArray, s = ⟨#[]⟩ := ⟨_, rfl⟩
  obtain ⟨E1, hE1⟩ : ∃ E, E = Tb.redE t s p := ⟨_, rfl⟩
  obtain ⟨T1, hT1⟩ : ∃ T, T = Tb.res (Tb.redE t s p) (Tb.redT t s p) := ⟨_, rfl⟩
  have HA1 := hid (fun v wx (hx : TbV wx v t) (hq : Rd wx P (cns p)) => show TRl 6 #[v, .string s, .slice P np pcap] wx (E1 : Nat) T1 from by
    have h := red_any t s p P np pcap v wx hx hb hpn hq hnl
    rw [← hT1, ← hE1] at h; exact h)
  have HD1 := hid (fun v wx (hx : TbV wx v t) (hq : Rd wx P (cns p)) => show TRv 11 #[v, .string s, .slice P np pcap] wx (E1 : Nat) T1 from by
    have h := redOf_any t s p P np pcap v wx hx hb hpn hq hnl hcap
    rw [← hT1, ← hE1] at h; exact h)
  have HB1 := hid (show TbB T1 from by rw [hT1]; exact res_B (fun h => Right.B (Tb.red_right (Tb.redE_ok.1 h).1)))
  obtain ⟨E2, hE2⟩ : ∃ E, E = Tb.keepE t p := ⟨_, rfl⟩
  obtain ⟨T2, hT2⟩ : ∃ T, T = Tb.res (Tb.keepE t p) (Tb.keepT t p) := ⟨_, rfl⟩
  have HA2 := hid (fun v wx (hx : TbV wx v t) (hq : Rd wx P (cns p)) => show TRl 7 #[v, .slice P np pcap] wx (E2 : Nat) T2 from by
    have h := keep_any t p P np pcap v wx hx hb hpn hq hnl
    rw [← hT2, ← hE2] at h; exact h)
  have HD2 := hid (fun v wx (hx : TbV wx v t) (hq : Rd wx P (cns p)) => show TRv 12 #[v, .slice P np pcap] wx (E2 : Nat) T2 from by
    have h := keepOf_any t p P np pcap v wx hx hb hpn hq hnl hcap
    rw [← hT2, ← hE2] at h; exact h)
  have HB2 := hid (show TbB T2 from by rw [hT2]; exact res_B (fun h => Right.B (Tb.keep_right (Tb.keepE_ok.1 h).1)))
  obtain ⟨E3, hE3⟩ : ∃ E, E = Tb.projE t (Tb.bas l) := ⟨_, rfl⟩
  obtain ⟨T3, hT3⟩ : ∃ T, T = Tb.res (Tb.projE t (Tb.bas l)) (Tb.projT t (Tb.bas l)) := ⟨_, rfl⟩
  have HA3 := hid (fun v wx (hx : TbV wx v t) (hq : Rd wx N (txs l)) => show TRl 8 #[v, .slice N 0 nc] wx (E3 : Nat) T3 from by
    have h := proj_any t l N 0 nc v wx hx hb hl hq hnn hnc
    rw [← hT3, ← hE3] at h; exact h)
  have HD3 := hid (fun v wx (hx : TbV wx v t) (hq : Rd wx N (txs l)) => show TRv 13 #[v, .slice N 0 nc] wx (E3 : Nat) T3 from by
    have h := projOf_any t l N 0 nc v wx hx hb hl hq hnn
    rw [← hT3, ← hE3] at h; exact h)
  have HB3 := hid (show TbB T3 from by rw [hT3]; exact res_B (fun h => Right.B (Tb.proj_right h)))
  obtain ⟨E4, hE4⟩ : ∃ E, E = Tb.sliceE t x y := ⟨_, rfl⟩
  obtain ⟨T4, hT4⟩ : ∃ T, T = Tb.res (Tb.sliceE t x y) (Tb.sliceT t x y) := ⟨_, rfl⟩
  have HA4 := hid (fun v wx (hx : TbV wx v t)  => show TRl 9 #[v, .int .i64 x, .int .i64 y] wx (E4 : Nat) T4 from by
    have h := slice_any t x y v wx hx hb
    rw [← hT4, ← hE4] at h; exact h)
  have HD4 := hid (fun v wx (hx : TbV wx v t)  => show TRv 14 #[v, .int .i64 x, .int .i64 y] wx (E4 : Nat) T4 from by
    have h := sliceOf_any t x y v wx hx hb
    rw [← hT4, ← hE4] at h; exact h)
  have HB4 := hid (show TbB T4 from by rw [hT4]; exact res_B (fun h => Right.B (Tb.slice_right (Tb.sliceE_ok.1 h).1 x y)))
  obtain ⟨E5, hE5⟩ : ∃ E, E = Tb.appE t o := ⟨_, rfl⟩
  obtain ⟨T5, hT5⟩ : ∃ T, T = Tb.res (Tb.appE t o) (Tb.appT t o) := ⟨_, rfl⟩
  have HA5 := hid (fun v u wx (hx : TbV wx v t) (hy : TbV wx u o) => show TRl 10 #[v, u] wx (E5 : Nat) T5 from by
    have h := app_any t o u v wx hx hb hy hbo
    rw [← hT5, ← hE5] at h; exact h)
  have HD5 := hid (fun v u wx (hx : TbV wx v t) (hy : TbV wx u o) => show TRv 15 #[v, u] wx (E5 : Nat) T5 from by
    have h := appOf_any t o u v wx hx hb hy hbo
    rw [← hT5, ← hE5] at h; exact h)
  have HB5 := hid (show TbB T5 from by rw [hT5]; exact res_B (fun h => app_BB h))
  have HSM := hid (fun (T : Tb.Tab) (hb : TbB T) v u wx (h1 : TbV wx v T) (h2 : TbV wx u T) => show Calls Tryz.prog 17 #[v, u] wx fun e w' => e = .returned (.bool true) ∧ Ext wx w' from by
    have h := sameT_any T T v u wx h1 h2 hb
    rw [decide_eq_true rfl] at h; exact h)
  have XN := hid (((ext_refl w).new (.cells #[.slice A n c, .slice B m d] 25)).new (.cells #[.slice A2 n2 c2, .slice B2 m2 d2] 25))
  clear hv hb hu hbo hpn hp hnl hcap hl hr hnn hnc hE1 hE2 hE3 hE4 hE5 hT1 hT2 hT3 hT4 hT5
  go_enter Tryz.func3, Tryz.ntmps3
  go_upto_region 1 with fail
  refine wp_gen (fun w' => Ext w w' ∧ Blk w' w.heap.size 25 #[.slice A n c, .slice B m d] ∧ Blk w' (w.heap.size + 1) 25 #[.slice A2 n2 c2, .slice B2 m2 d2]) ⟨XN.out, (Blk.new _ _ _).alloc _, blk_at _ _ (by simp)⟩ ?_
  rintro wz ⟨x0, x1, x2⟩
  have X0 : Hid (Ext w wz) := hid x0
  have X : Hid (Ext wz wz) := hid (ext_refl wz)
  have BT := hid x1
  have BS := hid x2
  have VT := hid (HV0.out.keep x0)
  have VS := hid (HU0.out.keep x0)
  have RP := hid (HP.out.keep x0)
  have RN := hid (HN.out.keep x0)
  clear x0 x1 x2 XN HV0 HU0 HP HN
  go_upto_region 4 with fail
  rw [← hs]
  have HSS := hid hs
  clear hs
  have BTk := hid (BT.out.keep X.out)
  have kBTk0 := BTk.out.cell 0
  have kBTk1 := BTk.out.cell 1
  go_wp2_with fail
  refine Calls.mono (HA1.out _ _ (VT.out.keep X.out) (RP.out.keep X.out)) ?_
  rintro e w1 ⟨v', rfl, hl, hx⟩
  obtain ⟨Aza, nza, cza, Dza, mza, dza, rfl⟩ := hl.V.shape
  have hn := Ext.new (ext_refl w1) (.cells #[.slice Aza nza cza, .slice Dza mza dza] 25)
  have Bza := hid (Blk.new w1 25 #[.slice Aza nza cza, .slice Dza mza dza])
  have Vza := hid (hl.V.keep hn)
  have hy := Ext.then hx hn
  replace X := hid (X.out.then hy)
  clear BTk kBTk0 kBTk1 hx hl hn hy
  have BTk := hid (BT.out.keep X.out)
  have kBTk0 := BTk.out.cell 0
  have kBTk1 := BTk.out.cell 1
  go_wp2_with fail
  refine Calls.mono (HA2.out _ _ (VT.out.keep X.out) (RP.out.keep X.out)) ?_
  rintro e w2 ⟨v', rfl, hl, hx⟩
  obtain ⟨Azb, nzb, czb, Dzb, mzb, dzb, rfl⟩ := hl.V.shape
  have hn := Ext.new (ext_refl w2) (.cells #[.slice Azb nzb czb, .slice Dzb mzb dzb] 25)
  have Bzb := hid (Blk.new w2 25 #[.slice Azb nzb czb, .slice Dzb mzb dzb])
  have Vzb := hid (hl.V.keep hn)
  have hy := Ext.then hx hn
  replace X := hid (X.out.then hy)
  replace Bza := hid (Bza.out.keep hy)
  replace Vza := hid (Vza.out.keep hy)
  clear BTk kBTk0 kBTk1 hx hl hn hy
  have BTk := hid (BT.out.keep X.out)
  have kBTk0 := BTk.out.cell 0
  have kBTk1 := BTk.out.cell 1
  go_wp2_with fail
  refine Calls.mono (HA3.out _ _ (VT.out.keep X.out) (RN.out.keep X.out)) ?_
  rintro e w3 ⟨v', rfl, hl, hx⟩
  obtain ⟨Azc, nzc, czc, Dzc, mzc, dzc, rfl⟩ := hl.V.shape
  have hn := Ext.new (ext_refl w3) (.cells #[.slice Azc nzc czc, .slice Dzc mzc dzc] 25)
  have Bzc := hid (Blk.new w3 25 #[.slice Azc nzc czc, .slice Dzc mzc dzc])
  have Vzc := hid (hl.V.keep hn)
  have hy := Ext.then hx hn
  replace X := hid (X.out.then hy)
  replace Bza := hid (Bza.out.keep hy)
  replace Vza := hid (Vza.out.keep hy)
  replace Bzb := hid (Bzb.out.keep hy)
  replace Vzb := hid (Vzb.out.keep hy)
  clear BTk kBTk0 kBTk1 hx hl hn hy
  have BTk := hid (BT.out.keep X.out)
  have kBTk0 := BTk.out.cell 0
  have kBTk1 := BTk.out.cell 1
  go_wp2_with fail
  refine Calls.mono (HA4.out _ _ (VT.out.keep X.out)) ?_
  rintro e w4 ⟨v', rfl, hl, hx⟩
  obtain ⟨Azd, nzd, czd, Dzd, mzd, dzd, rfl⟩ := hl.V.shape
  have hn := Ext.new (ext_refl w4) (.cells #[.slice Azd nzd czd, .slice Dzd mzd dzd] 25)
  have Bzd := hid (Blk.new w4 25 #[.slice Azd nzd czd, .slice Dzd mzd dzd])
  have Vzd := hid (hl.V.keep hn)
  have hy := Ext.then hx hn
  replace X := hid (X.out.then hy)
  replace Bza := hid (Bza.out.keep hy)
  replace Vza := hid (Vza.out.keep hy)
  replace Bzb := hid (Bzb.out.keep hy)
  replace Vzb := hid (Vzb.out.keep hy)
  replace Bzc := hid (Bzc.out.keep hy)
  replace Vzc := hid (Vzc.out.keep hy)
  clear BTk kBTk0 kBTk1 hx hl hn hy
  have BTk := hid (BT.out.keep X.out)
  have BSk := hid (BS.out.keep X.out)
  have kBTk0 := BTk.out.cell 0
  have kBTk1 := BTk.out.cell 1
  have kBSk0 := BSk.out.cell 0
  have kBSk1 := BSk.out.cell 1
  go_wp2_with fail
  refine Calls.mono (HA5.out _ _ _ (VT.out.keep X.out) (VS.out.keep X.out)) ?_
  rintro e w5 ⟨v', rfl, hl, hx⟩
  obtain ⟨Aze, nze, cze, Dze, mze, dze, rfl⟩ := hl.V.shape
  have hn := Ext.new (ext_refl w5) (.cells #[.slice Aze nze cze, .slice Dze mze dze] 25)
  have Bze := hid (Blk.new w5 25 #[.slice Aze nze cze, .slice Dze mze dze])
  have Vze := hid (hl.V.keep hn)
  have hy := Ext.then hx hn
  replace X := hid (X.out.then hy)
  replace Bza := hid (Bza.out.keep hy)
  replace Vza := hid (Vza.out.keep hy)
  replace Bzb := hid (Bzb.out.keep hy)
  replace Vzb := hid (Vzb.out.keep hy)
  replace Bzc := hid (Bzc.out.keep hy)
  replace Vzc := hid (Vzc.out.keep hy)
  replace Bzd := hid (Bzd.out.keep hy)
  replace Vzd := hid (Vzd.out.keep hy)
  clear BTk BSk kBTk0 kBTk1 kBSk0 kBSk1 hx hl hn hy
  have BTk := hid (BT.out.keep X.out)
  have kBTk0 := BTk.out.cell 0
  have kBTk1 := BTk.out.cell 1
  go_wp2_with fail
  refine Calls.mono (HD1.out _ _ (VT.out.keep X.out) (RP.out.keep X.out)) ?_
  rintro e w6 ⟨v', rfl, hl, hx⟩
  obtain ⟨Azk, nzk, czk, Dzk, mzk, dzk, rfl⟩ := hl.V.shape
  have hn := Ext.new (ext_refl w6) (.cells #[.slice Azk nzk czk, .slice Dzk mzk dzk] 25)
  have Bzk := hid (Blk.new w6 25 #[.slice Azk nzk czk, .slice Dzk mzk dzk])
  have Vzk := hid (hl.V.keep hn)
  have hy := Ext.then hx hn
  replace X := hid (X.out.then hy)
  replace Bza := hid (Bza.out.keep hy)
  replace Vza := hid (Vza.out.keep hy)
  replace Bzb := hid (Bzb.out.keep hy)
  replace Vzb := hid (Vzb.out.keep hy)
  replace Bzc := hid (Bzc.out.keep hy)
  replace Vzc := hid (Vzc.out.keep hy)
  replace Bzd := hid (Bzd.out.keep hy)
  replace Vzd := hid (Vzd.out.keep hy)
  replace Bze := hid (Bze.out.keep hy)
  replace Vze := hid (Vze.out.keep hy)
  clear BTk kBTk0 kBTk1 hx hl hn hy
  have BTk := hid (BT.out.keep X.out)
  have kBTk0 := BTk.out.cell 0
  have kBTk1 := BTk.out.cell 1
  go_wp2_with fail
  refine Calls.mono (HD2.out _ _ (VT.out.keep X.out) (RP.out.keep X.out)) ?_
  rintro e w7 ⟨v', rfl, hl, hx⟩
  obtain ⟨Azl, nzl, czl, Dzl, mzl, dzl, rfl⟩ := hl.V.shape
  have hn := Ext.new (ext_refl w7) (.cells #[.slice Azl nzl czl, .slice Dzl mzl dzl] 25)
  have Bzl := hid (Blk.new w7 25 #[.slice Azl nzl czl, .slice Dzl mzl dzl])
  have Vzl := hid (hl.V.keep hn)
  have hy := Ext.then hx hn
  replace X := hid (X.out.then hy)
  replace Bza := hid (Bza.out.keep hy)
  replace Vza := hid (Vza.out.keep hy)
  replace Bzb := hid (Bzb.out.keep hy)
  replace Vzb := hid (Vzb.out.keep hy)
  replace Bzc := hid (Bzc.out.keep hy)
  replace Vzc := hid (Vzc.out.keep hy)
  replace Bzd := hid (Bzd.out.keep hy)
  replace Vzd := hid (Vzd.out.keep hy)
  replace Bze := hid (Bze.out.keep hy)
  replace Vze := hid (Vze.out.keep hy)
  replace Bzk := hid (Bzk.out.keep hy)
  replace Vzk := hid (Vzk.out.keep hy)
  clear BTk kBTk0 kBTk1 hx hl hn hy
  have BTk := hid (BT.out.keep X.out)
  have kBTk0 := BTk.out.cell 0
  have kBTk1 := BTk.out.cell 1
  go_wp2_with fail
  refine Calls.mono (HD3.out _ _ (VT.out.keep X.out) (RN.out.keep X.out)) ?_
  rintro e w8 ⟨v', rfl, hl, hx⟩
  obtain ⟨Azm, nzm, czm, Dzm, mzm, dzm, rfl⟩ := hl.V.shape
  have hn := Ext.new (ext_refl w8) (.cells #[.slice Azm nzm czm, .slice Dzm mzm dzm] 25)
  have Bzm := hid (Blk.new w8 25 #[.slice Azm nzm czm, .slice Dzm mzm dzm])
  have Vzm := hid (hl.V.keep hn)
  have hy := Ext.then hx hn
  replace X := hid (X.out.then hy)
  replace Bza := hid (Bza.out.keep hy)
  replace Vza := hid (Vza.out.keep hy)
  replace Bzb := hid (Bzb.out.keep hy)
  replace Vzb := hid (Vzb.out.keep hy)
  replace Bzc := hid (Bzc.out.keep hy)
  replace Vzc := hid (Vzc.out.keep hy)
  replace Bzd := hid (Bzd.out.keep hy)
  replace Vzd := hid (Vzd.out.keep hy)
  replace Bze := hid (Bze.out.keep hy)
  replace Vze := hid (Vze.out.keep hy)
  replace Bzk := hid (Bzk.out.keep hy)
  replace Vzk := hid (Vzk.out.keep hy)
  replace Bzl := hid (Bzl.out.keep hy)
  replace Vzl := hid (Vzl.out.keep hy)
  clear BTk kBTk0 kBTk1 hx hl hn hy
  have BTk := hid (BT.out.keep X.out)
  have kBTk0 := BTk.out.cell 0
  have kBTk1 := BTk.out.cell 1
  go_wp2_with fail
  refine Calls.mono (HD4.out _ _ (VT.out.keep X.out)) ?_
  rintro e w9 ⟨v', rfl, hl, hx⟩
  obtain ⟨Azn, nzn, czn, Dzn, mzn, dzn, rfl⟩ := hl.V.shape
  have hn := Ext.new (ext_refl w9) (.cells #[.slice Azn nzn czn, .slice Dzn mzn dzn] 25)
  have Bzn := hid (Blk.new w9 25 #[.slice Azn nzn czn, .slice Dzn mzn dzn])
  have Vzn := hid (hl.V.keep hn)
  have hy := Ext.then hx hn
  replace X := hid (X.out.then hy)
  replace Bza := hid (Bza.out.keep hy)
  replace Vza := hid (Vza.out.keep hy)
  replace Bzb := hid (Bzb.out.keep hy)
  replace Vzb := hid (Vzb.out.keep hy)
  replace Bzc := hid (Bzc.out.keep hy)
  replace Vzc := hid (Vzc.out.keep hy)
  replace Bzd := hid (Bzd.out.keep hy)
  replace Vzd := hid (Vzd.out.keep hy)
  replace Bze := hid (Bze.out.keep hy)
  replace Vze := hid (Vze.out.keep hy)
  replace Bzk := hid (Bzk.out.keep hy)
  replace Vzk := hid (Vzk.out.keep hy)
  replace Bzl := hid (Bzl.out.keep hy)
  replace Vzl := hid (Vzl.out.keep hy)
  replace Bzm := hid (Bzm.out.keep hy)
  replace Vzm := hid (Vzm.out.keep hy)
  clear BTk kBTk0 kBTk1 hx hl hn hy
  have BTk := hid (BT.out.keep X.out)
  have BSk := hid (BS.out.keep X.out)
  have kBTk0 := BTk.out.cell 0
  have kBTk1 := BTk.out.cell 1
  have kBSk0 := BSk.out.cell 0
  have kBSk1 := BSk.out.cell 1
  go_wp2_with fail
  refine Calls.mono (HD5.out _ _ _ (VT.out.keep X.out) (VS.out.keep X.out)) ?_
  rintro e w10 ⟨v', rfl, hl, hx⟩
  obtain ⟨Azq, nzq, czq, Dzq, mzq, dzq, rfl⟩ := hl.V.shape
  have hn := Ext.new (ext_refl w10) (.cells #[.slice Azq nzq czq, .slice Dzq mzq dzq] 25)
  have Bzq := hid (Blk.new w10 25 #[.slice Azq nzq czq, .slice Dzq mzq dzq])
  have Vzq := hid (hl.V.keep hn)
  have hy := Ext.then hx hn
  replace X := hid (X.out.then hy)
  replace Bza := hid (Bza.out.keep hy)
  replace Vza := hid (Vza.out.keep hy)
  replace Bzb := hid (Bzb.out.keep hy)
  replace Vzb := hid (Vzb.out.keep hy)
  replace Bzc := hid (Bzc.out.keep hy)
  replace Vzc := hid (Vzc.out.keep hy)
  replace Bzd := hid (Bzd.out.keep hy)
  replace Vzd := hid (Vzd.out.keep hy)
  replace Bze := hid (Bze.out.keep hy)
  replace Vze := hid (Vze.out.keep hy)
  replace Bzk := hid (Bzk.out.keep hy)
  replace Vzk := hid (Vzk.out.keep hy)
  replace Bzl := hid (Bzl.out.keep hy)
  replace Vzl := hid (Vzl.out.keep hy)
  replace Bzm := hid (Bzm.out.keep hy)
  replace Vzm := hid (Vzm.out.keep hy)
  replace Bzn := hid (Bzn.out.keep hy)
  replace Vzn := hid (Vzn.out.keep hy)
  clear BTk BSk kBTk0 kBTk1 kBSk0 kBSk1 hx hl hn hy
  go_wp2_with fail
  refine Calls.mono (tableBegun_any _) ?_
  rintro e w11 ⟨rfl, hx⟩
  replace X := hid (X.out.then hx)
  replace Bza := hid (Bza.out.keep hx)
  replace Vza := hid (Vza.out.keep hx)
  replace Bzb := hid (Bzb.out.keep hx)
  replace Vzb := hid (Vzb.out.keep hx)
  replace Bzc := hid (Bzc.out.keep hx)
  replace Vzc := hid (Vzc.out.keep hx)
  replace Bzd := hid (Bzd.out.keep hx)
  replace Vzd := hid (Vzd.out.keep hx)
  replace Bze := hid (Bze.out.keep hx)
  replace Vze := hid (Vze.out.keep hx)
  replace Bzk := hid (Bzk.out.keep hx)
  replace Vzk := hid (Vzk.out.keep hx)
  replace Bzl := hid (Bzl.out.keep hx)
  replace Vzl := hid (Vzl.out.keep hx)
  replace Bzm := hid (Bzm.out.keep hx)
  replace Vzm := hid (Vzm.out.keep hx)
  replace Bzn := hid (Bzn.out.keep hx)
  replace Vzn := hid (Vzn.out.keep hx)
  replace Bzq := hid (Bzq.out.keep hx)
  replace Vzq := hid (Vzq.out.keep hx)
  clear  hx
  have kBza0 := Bza.out.cell 0
  have kBza1 := Bza.out.cell 1
  have kBzk0 := Bzk.out.cell 0
  have kBzk1 := Bzk.out.cell 1
  go_wp2_with fail
  refine Calls.mono (HSM.out _ HB1.out _ _ _ Vza.out Vzk.out) ?_
  rintro e w12 ⟨rfl, hx⟩
  replace X := hid (X.out.then hx)
  replace Bzb := hid (Bzb.out.keep hx)
  replace Vzb := hid (Vzb.out.keep hx)
  replace Bzc := hid (Bzc.out.keep hx)
  replace Vzc := hid (Vzc.out.keep hx)
  replace Bzd := hid (Bzd.out.keep hx)
  replace Vzd := hid (Vzd.out.keep hx)
  replace Bze := hid (Bze.out.keep hx)
  replace Vze := hid (Vze.out.keep hx)
  replace Bzl := hid (Bzl.out.keep hx)
  replace Vzl := hid (Vzl.out.keep hx)
  replace Bzm := hid (Bzm.out.keep hx)
  replace Vzm := hid (Vzm.out.keep hx)
  replace Bzn := hid (Bzn.out.keep hx)
  replace Vzn := hid (Vzn.out.keep hx)
  replace Bzq := hid (Bzq.out.keep hx)
  replace Vzq := hid (Vzq.out.keep hx)
  clear kBza0 kBza1 kBzk0 kBzk1 hx
  have kBzb0 := Bzb.out.cell 0
  have kBzb1 := Bzb.out.cell 1
  have kBzl0 := Bzl.out.cell 0
  have kBzl1 := Bzl.out.cell 1
  go_wp2_with fail
  refine Calls.mono (HSM.out _ HB2.out _ _ _ Vzb.out Vzl.out) ?_
  rintro e w13 ⟨rfl, hx⟩
  replace X := hid (X.out.then hx)
  replace Bzc := hid (Bzc.out.keep hx)
  replace Vzc := hid (Vzc.out.keep hx)
  replace Bzd := hid (Bzd.out.keep hx)
  replace Vzd := hid (Vzd.out.keep hx)
  replace Bze := hid (Bze.out.keep hx)
  replace Vze := hid (Vze.out.keep hx)
  replace Bzm := hid (Bzm.out.keep hx)
  replace Vzm := hid (Vzm.out.keep hx)
  replace Bzn := hid (Bzn.out.keep hx)
  replace Vzn := hid (Vzn.out.keep hx)
  replace Bzq := hid (Bzq.out.keep hx)
  replace Vzq := hid (Vzq.out.keep hx)
  clear kBzb0 kBzb1 kBzl0 kBzl1 hx
  have kBzc0 := Bzc.out.cell 0
  have kBzc1 := Bzc.out.cell 1
  have kBzm0 := Bzm.out.cell 0
  have kBzm1 := Bzm.out.cell 1
  go_wp2_with fail
  refine Calls.mono (HSM.out _ HB3.out _ _ _ Vzc.out Vzm.out) ?_
  rintro e w14 ⟨rfl, hx⟩
  replace X := hid (X.out.then hx)
  replace Bzd := hid (Bzd.out.keep hx)
  replace Vzd := hid (Vzd.out.keep hx)
  replace Bze := hid (Bze.out.keep hx)
  replace Vze := hid (Vze.out.keep hx)
  replace Bzn := hid (Bzn.out.keep hx)
  replace Vzn := hid (Vzn.out.keep hx)
  replace Bzq := hid (Bzq.out.keep hx)
  replace Vzq := hid (Vzq.out.keep hx)
  clear kBzc0 kBzc1 kBzm0 kBzm1 hx
  have kBzd0 := Bzd.out.cell 0
  have kBzd1 := Bzd.out.cell 1
  have kBzn0 := Bzn.out.cell 0
  have kBzn1 := Bzn.out.cell 1
  go_wp2_with fail
  refine Calls.mono (HSM.out _ HB4.out _ _ _ Vzd.out Vzn.out) ?_
  rintro e w15 ⟨rfl, hx⟩
  replace X := hid (X.out.then hx)
  replace Bze := hid (Bze.out.keep hx)
  replace Vze := hid (Vze.out.keep hx)
  replace Bzq := hid (Bzq.out.keep hx)
  replace Vzq := hid (Vzq.out.keep hx)
  clear kBzd0 kBzd1 kBzn0 kBzn1 hx
  have kBze0 := Bze.out.cell 0
  have kBze1 := Bze.out.cell 1
  have kBzq0 := Bzq.out.cell 0
  have kBzq1 := Bzq.out.cell 1
  go_wp2_with fail
  refine Calls.mono (HSM.out _ HB5.out _ _ _ Vze.out Vzq.out) ?_
  rintro e w16 ⟨rfl, hx⟩
  replace X := hid (X.out.then hx)
  clear kBze0 kBze1 kBzq0 kBzq1 hx
  go_wp2
  go_returns
  exact ⟨rfl, X0.out.then X.out⟩
set_option maxHeartbeats 25600000 in
set_option maxRecDepth 100000 in
theorem picks_cons (t o : Tb.Tab) (p : List Cnd) (l : List (List UInt8)) (x y : Int) (P N : Option Addr) (np pcap nn nc : Nat) (v u : Value) (w : World) (hv : TbV w v t) (hb : TbB t) (hu : TbV w u o) (hbo : TbB o) (hpn : p.length = np) (hp : Rd w P (cns p)) (hnl : np ≤ 140737488355328) (hcap : np ≤ pcap) (hl : l.length = nn) (hr : Rd w N (txs l)) (hnn : nn ≤ 140737488355328) (hnc : nn ≤ nc) (h0 : 0 < nn) :
    Calls Tryz.prog 3 #[v, u, .slice P np pcap, .slice N nn nc, .int .i64 x, .int .i64 y] w fun e w' => e = .returned (.bool true) ∧ Ext w w' := by
  have HB := hid hb
  obtain ⟨A, n, c, B, m, d, rfl⟩ := hv.shape
  have HV0 := hid hv
  obtain ⟨A2, n2, c2, B2, m2, d2, rfl⟩ := hu.shape
  have HU0 := hid hu
  have HBO := hid hbo
  have HP := hid hp; have HN := hid hr
  have hl0 : 0 < l.length := by omega
  obtain ⟨b1, o1, eN, l1, c1⟩ := hr.texts 0 hl0
  obtain ⟨s, hs⟩ : ∃ s : ByteArray, s = ⟨(l[0]).toArray⟩ := ⟨_, rfl⟩
  have HS0 := hid (show w.cell? ⟨b1, o1 + 0, none⟩ = some (.string s) by rw [hs]; exact c1 0 hl0)
  have hnI : (0 : Int) < (nn : Int) := by omega
  have hnI2 : (nn : Int) ≤ 140737488355328 := by omega
  obtain ⟨E1, hE1⟩ : ∃ E, E = Tb.redE t s p := ⟨_, rfl⟩
  obtain ⟨T1, hT1⟩ : ∃ T, T = Tb.res (Tb.redE t s p) (Tb.redT t s p) := ⟨_, rfl⟩
  have HA1 := hid (fun v wx (hx : TbV wx v t) (hq : Rd wx P (cns p)) => show TRl 6 #[v, .string s, .slice P np pcap] wx (E1 : Nat) T1 from by
    have h := red_any t s p P np pcap v wx hx hb hpn hq hnl
    rw [← hT1, ← hE1] at h; exact h)
  have HD1 := hid (fun v wx (hx : TbV wx v t) (hq : Rd wx P (cns p)) => show TRv 11 #[v, .string s, .slice P np pcap] wx (E1 : Nat) T1 from by
    have h := redOf_any t s p P np pcap v wx hx hb hpn hq hnl hcap
    rw [← hT1, ← hE1] at h; exact h)
  have HB1 := hid (show TbB T1 from by rw [hT1]; exact res_B (fun h => Right.B (Tb.red_right (Tb.redE_ok.1 h).1)))
  obtain ⟨E2, hE2⟩ : ∃ E, E = Tb.keepE t p := ⟨_, rfl⟩
  obtain ⟨T2, hT2⟩ : ∃ T, T = Tb.res (Tb.keepE t p) (Tb.keepT t p) := ⟨_, rfl⟩
  have HA2 := hid (fun v wx (hx : TbV wx v t) (hq : Rd wx P (cns p)) => show TRl 7 #[v, .slice P np pcap] wx (E2 : Nat) T2 from by
    have h := keep_any t p P np pcap v wx hx hb hpn hq hnl
    rw [← hT2, ← hE2] at h; exact h)
  have HD2 := hid (fun v wx (hx : TbV wx v t) (hq : Rd wx P (cns p)) => show TRv 12 #[v, .slice P np pcap] wx (E2 : Nat) T2 from by
    have h := keepOf_any t p P np pcap v wx hx hb hpn hq hnl hcap
    rw [← hT2, ← hE2] at h; exact h)
  have HB2 := hid (show TbB T2 from by rw [hT2]; exact res_B (fun h => Right.B (Tb.keep_right (Tb.keepE_ok.1 h).1)))
  obtain ⟨E3, hE3⟩ : ∃ E, E = Tb.projE t (Tb.bas l) := ⟨_, rfl⟩
  obtain ⟨T3, hT3⟩ : ∃ T, T = Tb.res (Tb.projE t (Tb.bas l)) (Tb.projT t (Tb.bas l)) := ⟨_, rfl⟩
  have HA3 := hid (fun v wx (hx : TbV wx v t) (hq : Rd wx N (txs l)) => show TRl 8 #[v, .slice N nn nc] wx (E3 : Nat) T3 from by
    have h := proj_any t l N nn nc v wx hx hb hl hq hnn hnc
    rw [← hT3, ← hE3] at h; exact h)
  have HD3 := hid (fun v wx (hx : TbV wx v t) (hq : Rd wx N (txs l)) => show TRv 13 #[v, .slice N nn nc] wx (E3 : Nat) T3 from by
    have h := projOf_any t l N nn nc v wx hx hb hl hq hnn
    rw [← hT3, ← hE3] at h; exact h)
  have HB3 := hid (show TbB T3 from by rw [hT3]; exact res_B (fun h => Right.B (Tb.proj_right h)))
  obtain ⟨E4, hE4⟩ : ∃ E, E = Tb.sliceE t x y := ⟨_, rfl⟩
  obtain ⟨T4, hT4⟩ : ∃ T, T = Tb.res (Tb.sliceE t x y) (Tb.sliceT t x y) := ⟨_, rfl⟩
  have HA4 := hid (fun v wx (hx : TbV wx v t)  => show TRl 9 #[v, .int .i64 x, .int .i64 y] wx (E4 : Nat) T4 from by
    have h := slice_any t x y v wx hx hb
    rw [← hT4, ← hE4] at h; exact h)
  have HD4 := hid (fun v wx (hx : TbV wx v t)  => show TRv 14 #[v, .int .i64 x, .int .i64 y] wx (E4 : Nat) T4 from by
    have h := sliceOf_any t x y v wx hx hb
    rw [← hT4, ← hE4] at h; exact h)
  have HB4 := hid (show TbB T4 from by rw [hT4]; exact res_B (fun h => Right.B (Tb.slice_right (Tb.sliceE_ok.1 h).1 x y)))
  obtain ⟨E5, hE5⟩ : ∃ E, E = Tb.appE t o := ⟨_, rfl⟩
  obtain ⟨T5, hT5⟩ : ∃ T, T = Tb.res (Tb.appE t o) (Tb.appT t o) := ⟨_, rfl⟩
  have HA5 := hid (fun v u wx (hx : TbV wx v t) (hy : TbV wx u o) => show TRl 10 #[v, u] wx (E5 : Nat) T5 from by
    have h := app_any t o u v wx hx hb hy hbo
    rw [← hT5, ← hE5] at h; exact h)
  have HD5 := hid (fun v u wx (hx : TbV wx v t) (hy : TbV wx u o) => show TRv 15 #[v, u] wx (E5 : Nat) T5 from by
    have h := appOf_any t o u v wx hx hb hy hbo
    rw [← hT5, ← hE5] at h; exact h)
  have HB5 := hid (show TbB T5 from by rw [hT5]; exact res_B (fun h => app_BB h))
  have HSM := hid (fun (T : Tb.Tab) (hb : TbB T) v u wx (h1 : TbV wx v T) (h2 : TbV wx u T) => show Calls Tryz.prog 17 #[v, u] wx fun e w' => e = .returned (.bool true) ∧ Ext wx w' from by
    have h := sameT_any T T v u wx h1 h2 hb
    rw [decide_eq_true rfl] at h; exact h)
  have XN := hid (((ext_refl w).new (.cells #[.slice A n c, .slice B m d] 25)).new (.cells #[.slice A2 n2 c2, .slice B2 m2 d2] 25))
  clear hv hb hu hbo hpn hp hnl hcap hl hr hnn hnc hE1 hE2 hE3 hE4 hE5 hT1 hT2 hT3 hT4 hT5 hs hl0 l1 c1 h0
  have heN := hid eN
  clear eN
  have eN := heN.out
  subst eN
  go_enter Tryz.func3, Tryz.ntmps3
  go_upto_region 1 with fail
  refine wp_gen (fun w' => Ext w w' ∧ Blk w' w.heap.size 25 #[.slice A n c, .slice B m d] ∧ Blk w' (w.heap.size + 1) 25 #[.slice A2 n2 c2, .slice B2 m2 d2]) ⟨XN.out, (Blk.new _ _ _).alloc _, blk_at _ _ (by simp)⟩ ?_
  rintro wz ⟨x0, x1, x2⟩
  have X0 : Hid (Ext w wz) := hid x0
  have X : Hid (Ext wz wz) := hid (ext_refl wz)
  have BT := hid x1
  have BS := hid x2
  have VT := hid (HV0.out.keep x0)
  have VS := hid (HU0.out.keep x0)
  have RP := hid (HP.out.keep x0)
  have RN := hid (HN.out.keep x0)
  have s0 := ext_cell x0 HS0.out
  rw [Nat.add_zero] at s0
  clear x0 x1 x2 XN HV0 HU0 HP HN
  go_upto_region 4 with fail
  clear s0
  have BTk := hid (BT.out.keep X.out)
  have kBTk0 := BTk.out.cell 0
  have kBTk1 := BTk.out.cell 1
  go_wp2_with fail
  refine Calls.mono (HA1.out _ _ (VT.out.keep X.out) (RP.out.keep X.out)) ?_
  rintro e w1 ⟨v', rfl, hl, hx⟩
  obtain ⟨Aza, nza, cza, Dza, mza, dza, rfl⟩ := hl.V.shape
  have hn := Ext.new (ext_refl w1) (.cells #[.slice Aza nza cza, .slice Dza mza dza] 25)
  have Bza := hid (Blk.new w1 25 #[.slice Aza nza cza, .slice Dza mza dza])
  have Vza := hid (hl.V.keep hn)
  have hy := Ext.then hx hn
  replace X := hid (X.out.then hy)
  clear BTk kBTk0 kBTk1 hx hl hn hy
  have BTk := hid (BT.out.keep X.out)
  have kBTk0 := BTk.out.cell 0
  have kBTk1 := BTk.out.cell 1
  go_wp2_with fail
  refine Calls.mono (HA2.out _ _ (VT.out.keep X.out) (RP.out.keep X.out)) ?_
  rintro e w2 ⟨v', rfl, hl, hx⟩
  obtain ⟨Azb, nzb, czb, Dzb, mzb, dzb, rfl⟩ := hl.V.shape
  have hn := Ext.new (ext_refl w2) (.cells #[.slice Azb nzb czb, .slice Dzb mzb dzb] 25)
  have Bzb := hid (Blk.new w2 25 #[.slice Azb nzb czb, .slice Dzb mzb dzb])
  have Vzb := hid (hl.V.keep hn)
  have hy := Ext.then hx hn
  replace X := hid (X.out.then hy)
  replace Bza := hid (Bza.out.keep hy)
  replace Vza := hid (Vza.out.keep hy)
  clear BTk kBTk0 kBTk1 hx hl hn hy
  have BTk := hid (BT.out.keep X.out)
  have kBTk0 := BTk.out.cell 0
  have kBTk1 := BTk.out.cell 1
  go_wp2_with fail
  refine Calls.mono (HA3.out _ _ (VT.out.keep X.out) (RN.out.keep X.out)) ?_
  rintro e w3 ⟨v', rfl, hl, hx⟩
  obtain ⟨Azc, nzc, czc, Dzc, mzc, dzc, rfl⟩ := hl.V.shape
  have hn := Ext.new (ext_refl w3) (.cells #[.slice Azc nzc czc, .slice Dzc mzc dzc] 25)
  have Bzc := hid (Blk.new w3 25 #[.slice Azc nzc czc, .slice Dzc mzc dzc])
  have Vzc := hid (hl.V.keep hn)
  have hy := Ext.then hx hn
  replace X := hid (X.out.then hy)
  replace Bza := hid (Bza.out.keep hy)
  replace Vza := hid (Vza.out.keep hy)
  replace Bzb := hid (Bzb.out.keep hy)
  replace Vzb := hid (Vzb.out.keep hy)
  clear BTk kBTk0 kBTk1 hx hl hn hy
  have BTk := hid (BT.out.keep X.out)
  have kBTk0 := BTk.out.cell 0
  have kBTk1 := BTk.out.cell 1
  go_wp2_with fail
  refine Calls.mono (HA4.out _ _ (VT.out.keep X.out)) ?_
  rintro e w4 ⟨v', rfl, hl, hx⟩
  obtain ⟨Azd, nzd, czd, Dzd, mzd, dzd, rfl⟩ := hl.V.shape
  have hn := Ext.new (ext_refl w4) (.cells #[.slice Azd nzd czd, .slice Dzd mzd dzd] 25)
  have Bzd := hid (Blk.new w4 25 #[.slice Azd nzd czd, .slice Dzd mzd dzd])
  have Vzd := hid (hl.V.keep hn)
  have hy := Ext.then hx hn
  replace X := hid (X.out.then hy)
  replace Bza := hid (Bza.out.keep hy)
  replace Vza := hid (Vza.out.keep hy)
  replace Bzb := hid (Bzb.out.keep hy)
  replace Vzb := hid (Vzb.out.keep hy)
  replace Bzc := hid (Bzc.out.keep hy)
  replace Vzc := hid (Vzc.out.keep hy)
  clear BTk kBTk0 kBTk1 hx hl hn hy
  have BTk := hid (BT.out.keep X.out)
  have BSk := hid (BS.out.keep X.out)
  have kBTk0 := BTk.out.cell 0
  have kBTk1 := BTk.out.cell 1
  have kBSk0 := BSk.out.cell 0
  have kBSk1 := BSk.out.cell 1
  go_wp2_with fail
  refine Calls.mono (HA5.out _ _ _ (VT.out.keep X.out) (VS.out.keep X.out)) ?_
  rintro e w5 ⟨v', rfl, hl, hx⟩
  obtain ⟨Aze, nze, cze, Dze, mze, dze, rfl⟩ := hl.V.shape
  have hn := Ext.new (ext_refl w5) (.cells #[.slice Aze nze cze, .slice Dze mze dze] 25)
  have Bze := hid (Blk.new w5 25 #[.slice Aze nze cze, .slice Dze mze dze])
  have Vze := hid (hl.V.keep hn)
  have hy := Ext.then hx hn
  replace X := hid (X.out.then hy)
  replace Bza := hid (Bza.out.keep hy)
  replace Vza := hid (Vza.out.keep hy)
  replace Bzb := hid (Bzb.out.keep hy)
  replace Vzb := hid (Vzb.out.keep hy)
  replace Bzc := hid (Bzc.out.keep hy)
  replace Vzc := hid (Vzc.out.keep hy)
  replace Bzd := hid (Bzd.out.keep hy)
  replace Vzd := hid (Vzd.out.keep hy)
  clear BTk BSk kBTk0 kBTk1 kBSk0 kBSk1 hx hl hn hy
  have BTk := hid (BT.out.keep X.out)
  have kBTk0 := BTk.out.cell 0
  have kBTk1 := BTk.out.cell 1
  go_wp2_with fail
  refine Calls.mono (HD1.out _ _ (VT.out.keep X.out) (RP.out.keep X.out)) ?_
  rintro e w6 ⟨v', rfl, hl, hx⟩
  obtain ⟨Azk, nzk, czk, Dzk, mzk, dzk, rfl⟩ := hl.V.shape
  have hn := Ext.new (ext_refl w6) (.cells #[.slice Azk nzk czk, .slice Dzk mzk dzk] 25)
  have Bzk := hid (Blk.new w6 25 #[.slice Azk nzk czk, .slice Dzk mzk dzk])
  have Vzk := hid (hl.V.keep hn)
  have hy := Ext.then hx hn
  replace X := hid (X.out.then hy)
  replace Bza := hid (Bza.out.keep hy)
  replace Vza := hid (Vza.out.keep hy)
  replace Bzb := hid (Bzb.out.keep hy)
  replace Vzb := hid (Vzb.out.keep hy)
  replace Bzc := hid (Bzc.out.keep hy)
  replace Vzc := hid (Vzc.out.keep hy)
  replace Bzd := hid (Bzd.out.keep hy)
  replace Vzd := hid (Vzd.out.keep hy)
  replace Bze := hid (Bze.out.keep hy)
  replace Vze := hid (Vze.out.keep hy)
  clear BTk kBTk0 kBTk1 hx hl hn hy
  have BTk := hid (BT.out.keep X.out)
  have kBTk0 := BTk.out.cell 0
  have kBTk1 := BTk.out.cell 1
  go_wp2_with fail
  refine Calls.mono (HD2.out _ _ (VT.out.keep X.out) (RP.out.keep X.out)) ?_
  rintro e w7 ⟨v', rfl, hl, hx⟩
  obtain ⟨Azl, nzl, czl, Dzl, mzl, dzl, rfl⟩ := hl.V.shape
  have hn := Ext.new (ext_refl w7) (.cells #[.slice Azl nzl czl, .slice Dzl mzl dzl] 25)
  have Bzl := hid (Blk.new w7 25 #[.slice Azl nzl czl, .slice Dzl mzl dzl])
  have Vzl := hid (hl.V.keep hn)
  have hy := Ext.then hx hn
  replace X := hid (X.out.then hy)
  replace Bza := hid (Bza.out.keep hy)
  replace Vza := hid (Vza.out.keep hy)
  replace Bzb := hid (Bzb.out.keep hy)
  replace Vzb := hid (Vzb.out.keep hy)
  replace Bzc := hid (Bzc.out.keep hy)
  replace Vzc := hid (Vzc.out.keep hy)
  replace Bzd := hid (Bzd.out.keep hy)
  replace Vzd := hid (Vzd.out.keep hy)
  replace Bze := hid (Bze.out.keep hy)
  replace Vze := hid (Vze.out.keep hy)
  replace Bzk := hid (Bzk.out.keep hy)
  replace Vzk := hid (Vzk.out.keep hy)
  clear BTk kBTk0 kBTk1 hx hl hn hy
  have BTk := hid (BT.out.keep X.out)
  have kBTk0 := BTk.out.cell 0
  have kBTk1 := BTk.out.cell 1
  go_wp2_with fail
  refine Calls.mono (HD3.out _ _ (VT.out.keep X.out) (RN.out.keep X.out)) ?_
  rintro e w8 ⟨v', rfl, hl, hx⟩
  obtain ⟨Azm, nzm, czm, Dzm, mzm, dzm, rfl⟩ := hl.V.shape
  have hn := Ext.new (ext_refl w8) (.cells #[.slice Azm nzm czm, .slice Dzm mzm dzm] 25)
  have Bzm := hid (Blk.new w8 25 #[.slice Azm nzm czm, .slice Dzm mzm dzm])
  have Vzm := hid (hl.V.keep hn)
  have hy := Ext.then hx hn
  replace X := hid (X.out.then hy)
  replace Bza := hid (Bza.out.keep hy)
  replace Vza := hid (Vza.out.keep hy)
  replace Bzb := hid (Bzb.out.keep hy)
  replace Vzb := hid (Vzb.out.keep hy)
  replace Bzc := hid (Bzc.out.keep hy)
  replace Vzc := hid (Vzc.out.keep hy)
  replace Bzd := hid (Bzd.out.keep hy)
  replace Vzd := hid (Vzd.out.keep hy)
  replace Bze := hid (Bze.out.keep hy)
  replace Vze := hid (Vze.out.keep hy)
  replace Bzk := hid (Bzk.out.keep hy)
  replace Vzk := hid (Vzk.out.keep hy)
  replace Bzl := hid (Bzl.out.keep hy)
  replace Vzl := hid (Vzl.out.keep hy)
  clear BTk kBTk0 kBTk1 hx hl hn hy
  have BTk := hid (BT.out.keep X.out)
  have kBTk0 := BTk.out.cell 0
  have kBTk1 := BTk.out.cell 1
  go_wp2_with fail
  refine Calls.mono (HD4.out _ _ (VT.out.keep X.out)) ?_
  rintro e w9 ⟨v', rfl, hl, hx⟩
  obtain ⟨Azn, nzn, czn, Dzn, mzn, dzn, rfl⟩ := hl.V.shape
  have hn := Ext.new (ext_refl w9) (.cells #[.slice Azn nzn czn, .slice Dzn mzn dzn] 25)
  have Bzn := hid (Blk.new w9 25 #[.slice Azn nzn czn, .slice Dzn mzn dzn])
  have Vzn := hid (hl.V.keep hn)
  have hy := Ext.then hx hn
  replace X := hid (X.out.then hy)
  replace Bza := hid (Bza.out.keep hy)
  replace Vza := hid (Vza.out.keep hy)
  replace Bzb := hid (Bzb.out.keep hy)
  replace Vzb := hid (Vzb.out.keep hy)
  replace Bzc := hid (Bzc.out.keep hy)
  replace Vzc := hid (Vzc.out.keep hy)
  replace Bzd := hid (Bzd.out.keep hy)
  replace Vzd := hid (Vzd.out.keep hy)
  replace Bze := hid (Bze.out.keep hy)
  replace Vze := hid (Vze.out.keep hy)
  replace Bzk := hid (Bzk.out.keep hy)
  replace Vzk := hid (Vzk.out.keep hy)
  replace Bzl := hid (Bzl.out.keep hy)
  replace Vzl := hid (Vzl.out.keep hy)
  replace Bzm := hid (Bzm.out.keep hy)
  replace Vzm := hid (Vzm.out.keep hy)
  clear BTk kBTk0 kBTk1 hx hl hn hy
  have BTk := hid (BT.out.keep X.out)
  have BSk := hid (BS.out.keep X.out)
  have kBTk0 := BTk.out.cell 0
  have kBTk1 := BTk.out.cell 1
  have kBSk0 := BSk.out.cell 0
  have kBSk1 := BSk.out.cell 1
  go_wp2_with fail
  refine Calls.mono (HD5.out _ _ _ (VT.out.keep X.out) (VS.out.keep X.out)) ?_
  rintro e w10 ⟨v', rfl, hl, hx⟩
  obtain ⟨Azq, nzq, czq, Dzq, mzq, dzq, rfl⟩ := hl.V.shape
  have hn := Ext.new (ext_refl w10) (.cells #[.slice Azq nzq czq, .slice Dzq mzq dzq] 25)
  have Bzq := hid (Blk.new w10 25 #[.slice Azq nzq czq, .slice Dzq mzq dzq])
  have Vzq := hid (hl.V.keep hn)
  have hy := Ext.then hx hn
  replace X := hid (X.out.then hy)
  replace Bza := hid (Bza.out.keep hy)
  replace Vza := hid (Vza.out.keep hy)
  replace Bzb := hid (Bzb.out.keep hy)
  replace Vzb := hid (Vzb.out.keep hy)
  replace Bzc := hid (Bzc.out.keep hy)
  replace Vzc := hid (Vzc.out.keep hy)
  replace Bzd := hid (Bzd.out.keep hy)
  replace Vzd := hid (Vzd.out.keep hy)
  replace Bze := hid (Bze.out.keep hy)
  replace Vze := hid (Vze.out.keep hy)
  replace Bzk := hid (Bzk.out.keep hy)
  replace Vzk := hid (Vzk.out.keep hy)
  replace Bzl := hid (Bzl.out.keep hy)
  replace Vzl := hid (Vzl.out.keep hy)
  replace Bzm := hid (Bzm.out.keep hy)
  replace Vzm := hid (Vzm.out.keep hy)
  replace Bzn := hid (Bzn.out.keep hy)
  replace Vzn := hid (Vzn.out.keep hy)
  clear BTk BSk kBTk0 kBTk1 kBSk0 kBSk1 hx hl hn hy
  go_wp2_with fail
  refine Calls.mono (tableBegun_any _) ?_
  rintro e w11 ⟨rfl, hx⟩
  replace X := hid (X.out.then hx)
  replace Bza := hid (Bza.out.keep hx)
  replace Vza := hid (Vza.out.keep hx)
  replace Bzb := hid (Bzb.out.keep hx)
  replace Vzb := hid (Vzb.out.keep hx)
  replace Bzc := hid (Bzc.out.keep hx)
  replace Vzc := hid (Vzc.out.keep hx)
  replace Bzd := hid (Bzd.out.keep hx)
  replace Vzd := hid (Vzd.out.keep hx)
  replace Bze := hid (Bze.out.keep hx)
  replace Vze := hid (Vze.out.keep hx)
  replace Bzk := hid (Bzk.out.keep hx)
  replace Vzk := hid (Vzk.out.keep hx)
  replace Bzl := hid (Bzl.out.keep hx)
  replace Vzl := hid (Vzl.out.keep hx)
  replace Bzm := hid (Bzm.out.keep hx)
  replace Vzm := hid (Vzm.out.keep hx)
  replace Bzn := hid (Bzn.out.keep hx)
  replace Vzn := hid (Vzn.out.keep hx)
  replace Bzq := hid (Bzq.out.keep hx)
  replace Vzq := hid (Vzq.out.keep hx)
  clear  hx
  have kBza0 := Bza.out.cell 0
  have kBza1 := Bza.out.cell 1
  have kBzk0 := Bzk.out.cell 0
  have kBzk1 := Bzk.out.cell 1
  go_wp2_with fail
  refine Calls.mono (HSM.out _ HB1.out _ _ _ Vza.out Vzk.out) ?_
  rintro e w12 ⟨rfl, hx⟩
  replace X := hid (X.out.then hx)
  replace Bzb := hid (Bzb.out.keep hx)
  replace Vzb := hid (Vzb.out.keep hx)
  replace Bzc := hid (Bzc.out.keep hx)
  replace Vzc := hid (Vzc.out.keep hx)
  replace Bzd := hid (Bzd.out.keep hx)
  replace Vzd := hid (Vzd.out.keep hx)
  replace Bze := hid (Bze.out.keep hx)
  replace Vze := hid (Vze.out.keep hx)
  replace Bzl := hid (Bzl.out.keep hx)
  replace Vzl := hid (Vzl.out.keep hx)
  replace Bzm := hid (Bzm.out.keep hx)
  replace Vzm := hid (Vzm.out.keep hx)
  replace Bzn := hid (Bzn.out.keep hx)
  replace Vzn := hid (Vzn.out.keep hx)
  replace Bzq := hid (Bzq.out.keep hx)
  replace Vzq := hid (Vzq.out.keep hx)
  clear kBza0 kBza1 kBzk0 kBzk1 hx
  have kBzb0 := Bzb.out.cell 0
  have kBzb1 := Bzb.out.cell 1
  have kBzl0 := Bzl.out.cell 0
  have kBzl1 := Bzl.out.cell 1
  go_wp2_with fail
  refine Calls.mono (HSM.out _ HB2.out _ _ _ Vzb.out Vzl.out) ?_
  rintro e w13 ⟨rfl, hx⟩
  replace X := hid (X.out.then hx)
  replace Bzc := hid (Bzc.out.keep hx)
  replace Vzc := hid (Vzc.out.keep hx)
  replace Bzd := hid (Bzd.out.keep hx)
  replace Vzd := hid (Vzd.out.keep hx)
  replace Bze := hid (Bze.out.keep hx)
  replace Vze := hid (Vze.out.keep hx)
  replace Bzm := hid (Bzm.out.keep hx)
  replace Vzm := hid (Vzm.out.keep hx)
  replace Bzn := hid (Bzn.out.keep hx)
  replace Vzn := hid (Vzn.out.keep hx)
  replace Bzq := hid (Bzq.out.keep hx)
  replace Vzq := hid (Vzq.out.keep hx)
  clear kBzb0 kBzb1 kBzl0 kBzl1 hx
  have kBzc0 := Bzc.out.cell 0
  have kBzc1 := Bzc.out.cell 1
  have kBzm0 := Bzm.out.cell 0
  have kBzm1 := Bzm.out.cell 1
  go_wp2_with fail
  refine Calls.mono (HSM.out _ HB3.out _ _ _ Vzc.out Vzm.out) ?_
  rintro e w14 ⟨rfl, hx⟩
  replace X := hid (X.out.then hx)
  replace Bzd := hid (Bzd.out.keep hx)
  replace Vzd := hid (Vzd.out.keep hx)
  replace Bze := hid (Bze.out.keep hx)
  replace Vze := hid (Vze.out.keep hx)
  replace Bzn := hid (Bzn.out.keep hx)
  replace Vzn := hid (Vzn.out.keep hx)
  replace Bzq := hid (Bzq.out.keep hx)
  replace Vzq := hid (Vzq.out.keep hx)
  clear kBzc0 kBzc1 kBzm0 kBzm1 hx
  have kBzd0 := Bzd.out.cell 0
  have kBzd1 := Bzd.out.cell 1
  have kBzn0 := Bzn.out.cell 0
  have kBzn1 := Bzn.out.cell 1
  go_wp2_with fail
  refine Calls.mono (HSM.out _ HB4.out _ _ _ Vzd.out Vzn.out) ?_
  rintro e w15 ⟨rfl, hx⟩
  replace X := hid (X.out.then hx)
  replace Bze := hid (Bze.out.keep hx)
  replace Vze := hid (Vze.out.keep hx)
  replace Bzq := hid (Bzq.out.keep hx)
  replace Vzq := hid (Vzq.out.keep hx)
  clear kBzd0 kBzd1 kBzn0 kBzn1 hx
  have kBze0 := Bze.out.cell 0
  have kBze1 := Bze.out.cell 1
  have kBzq0 := Bzq.out.cell 0
  have kBzq1 := Bzq.out.cell 1
  go_wp2_with fail
  refine Calls.mono (HSM.out _ HB5.out _ _ _ Vze.out Vzq.out) ?_
  rintro e w16 ⟨rfl, hx⟩
  replace X := hid (X.out.then hx)
  clear kBze0 kBze1 kBzq0 kBzq1 hx
  go_wp2
  go_returns
  exact ⟨rfl, X0.out.then X.out⟩
theorem tablePicks_any (t o : Tb.Tab) (p : List Cnd) (l : List (List UInt8)) (x y : Int) (P N : Option Addr) (np pcap nn nc : Nat) (v u : Value) (w : World) (hv : TbV w v t) (hb : TbB t) (hu : TbV w u o) (hbo : TbB o) (hpn : p.length = np) (hp : Rd w P (cns p)) (hnl : np ≤ 140737488355328) (hcap : np ≤ pcap) (hl : l.length = nn) (hr : Rd w N (txs l)) (hnn : nn ≤ 140737488355328) (hnc : nn ≤ nc) :
    Calls Tryz.prog 3 #[v, u, .slice P np pcap, .slice N nn nc, .int .i64 x, .int .i64 y] w fun e w' => e = .returned (.bool true) ∧ Ext w w' := by
  by_cases h0 : 0 < nn
  · exact picks_cons t o p l x y P N np pcap nn nc v u w hv hb hu hbo hpn hp hnl hcap hl hr hnn hnc h0
  · exact picks_nil t o p l x y P N np pcap nn nc v u w hv hb hu hbo hpn hp hnl hcap hl hr hnn hnc (by omega)
end Go.Proofs.YtolhifnlahllnaaGreatDoor
