/- Delta: Write: plain words, the walk (printed by gen_dlb.py). -/
import Derived.Test.YtdblegdbfdhepaaDla
namespace Hy.Dlt
open Go
/-- what stands behind the first number: zigs of the differences -/
def zs (l : List Nat) : List Nat := match l with
  | [] => []
  | x :: r => (difs x r).map zig
theorem zs_len (l : List Nat) : (zs l).length = l.length - 1 := by cases l <;> simp [zs, difs_len]
theorem zs_lt (l : List Nat) : ∀ x ∈ zs l, x < 18446744073709551616 := by
  cases l with
  | nil => simp [zs]
  | cons x r =>
    intro y hy
    obtain ⟨z, hz, rfl⟩ := List.mem_map.1 hy
    exact zig_lt z (difs_lt x r z hz)
theorem difs_tail (l : List Nat) : (difs 0 l).drop 1 = match l with | [] => [] | x :: r => difs x r := by cases l <;> simp [difs]
/-- a list's bytes -/
@[irreducible] def bys (l : List Nat) : List UInt8 := if l = [] then [] else Vary.wr (l.headD 0) ++ [UInt8.ofNat (Bits.width (zs l))] ++ Hyb.raw (zs l) (Bits.width (zs l))
theorem bys_nil : bys [] = [] := by unfold bys; rfl
theorem bys_cons (x : Nat) (r : List Nat) : bys (x :: r) = Vary.wr x ++ [UInt8.ofNat (Bits.width (zs (x :: r)))] ++ Hyb.raw (zs (x :: r)) (Bits.width (zs (x :: r))) := by unfold bys; rw [if_neg (by simp)]; rfl
def wrt (l : List Nat) : List UInt8 × Nat := if 64 < l.length then ([], 2) else (bys l, 0)
end Hy.Dlt
namespace Go.Proofs.Ytdblegdbfdhepaa
open Go.RowKit Hy
set_option maxRecDepth 100000 in
set_option maxHeartbeats 3200000 in
theorem dWrite_any (l : List Nat) (A : Option Addr) (n cap : Nat) (w : World) (hn : l.length = n) (hr : Rd w A (u64s l)) (hcap : n ≤ cap) (hl : ∀ x ∈ l, x < 18446744073709551616) (hnl : n ≤ 9223372036854775806) :
    Calls Try.prog 48 #[.slice A n cap] w fun e w' => e = .returned (.tuple #[.string ⟨(Dlt.wrt l).1.toArray⟩, .int .i64 (Dlt.wrt l).2]) ∧ Ext w w' := by
  have H1 := hid (diffs_any l A n cap w hn hr hl hnl)
  unfold Dlt.df at H1
  unfold Dlt.wrt
  have hnI : (n : Int) ≤ 9223372036854775806 := by omega
  by_cases h64 : 64 < n
  · rw [if_pos (by omega)] at H1 ⊢
    clear hr hl hn hcap hnl h64
    go_enter Try.func48, Try.ntmps48
    go_wp2_with fail
    refine Calls.mono H1.out ?_
    rintro e w1 ⟨B, c, rfl, _, hx, _⟩
    have HX := hid hx
    clear hx
    go_wp2
    go_returns
    exact ⟨rfl, HX.out⟩
  · rw [if_neg (by omega)] at H1 ⊢
    cases l with
    | nil =>
      obtain rfl : n = 0 := by rw [← hn]; rfl
      rw [Dlt.bys_nil]
      clear hr hl hn hcap hnl h64 hnI
      go_enter Try.func48, Try.ntmps48
      go_wp2_with fail
      refine Calls.mono H1.out ?_
      rintro e w1 ⟨B, c, rfl, _, hx, _⟩
      have HX := hid hx
      clear hx
      go_wp2
      go_returns
      exact ⟨rfl, HX.out⟩
    | cons x r =>
      obtain ⟨m, rfl⟩ : ∃ m, n = m + 1 := ⟨r.length, by rw [← hn]; rfl⟩
      have hrm : r.length = m := by simpa using hn
      have hz : (Dlt.zs (x :: r)).length = m := by rw [Dlt.zs_len, hn]; rfl
      have hzl := Dlt.zs_lt (x :: r)
      have hdl : (Dlt.difs x r).length = m := by rw [Dlt.difs_len, hrm]
      have hdlt := Dlt.difs_lt x r
      have hmap : (Dlt.difs x r).map Dlt.zig = Dlt.zs (x :: r) := rfl
      rw [Dlt.bys_cons]
      have hlen0 : (Dlt.difs 0 (x :: r)).length = m + 1 := by rw [Dlt.difs_len, hn]
      have hdr : (Dlt.difs 0 (x :: r)).drop 1 = Dlt.difs x r := rfl
      obtain ⟨D, hD⟩ : ∃ D, D = Dlt.difs 0 (x :: r) := ⟨_, rfl⟩
      rw [← hD] at H1 hlen0 hdr
      obtain ⟨E, hE⟩ : ∃ E, E = Dlt.difs x r := ⟨_, rfl⟩
      rw [← hE] at hdl hdlt hmap hdr
      obtain ⟨Z, hZ⟩ : ∃ Z, Z = Dlt.zs (x :: r) := ⟨_, rfl⟩
      rw [← hZ] at hz hzl hmap ⊢
      have hw64 := Bits.width_le64 Z hzl
      have hzw := (Bits.width_le_iff Z (Bits.width Z) hzl hw64).1 (Nat.le_refl _)
      obtain ⟨wb, hwb⟩ : ∃ wb, wb = Bits.width Z := ⟨_, rfl⟩
      have HALL := hid (fun (B : Option Addr) (c : Nat) (wx : World) (h : Rd wx B (u64s E)) => all_zig E B m c wx hdl h hdlt (by omega))
      rw [hmap] at HALL
      have HWID := hid (fun (B : Option Addr) (c : Nat) (wx : World) (h : Rd wx B (u64s Z)) => width_any Z B m c wx hz h hzl (by omega))
      have HRW := hid (fun (B : Option Addr) (c : Nat) (wx : World) (h : Rd wx B (u64s Z)) (hc : m ≤ c) => hyRaw_any Z B m c (Bits.width Z) wx hz h hc (by omega) hzw hw64)
      have HV := hid (fun wx => write_any x wx (hl x (by simp)))
      have hlen := Hyb.raw_len Z (Bits.width Z) hw64 (by omega)
      have hsz : Bits.size Z.length (Bits.width Z) ≤ 512 := by unfold Bits.size; have := Nat.mul_le_mul (show Z.length ≤ 64 by omega) hw64; omega
      rw [← hwb] at HWID HRW hw64 hlen hsz ⊢
      obtain ⟨b1, o1, rfl, l1, c1⟩ := hr.num0 (by simp)
      have d0 := c1 0 x rfl
      rw [Nat.add_zero] at d0
      obtain ⟨X1b, hX1b⟩ : ∃ S : ByteArray, S = ⟨(Vary.wr x).toArray⟩ := ⟨_, rfl⟩
      obtain ⟨X2b, hX2b⟩ : ∃ S : ByteArray, S = ⟨[UInt8.ofNat wb].toArray⟩ := ⟨_, rfl⟩
      obtain ⟨X3b, hX3b⟩ : ∃ S : ByteArray, S = ⟨(Hyb.raw Z wb).toArray⟩ := ⟨_, rfl⟩
      have hz1 : X1b.size ≤ 9 := by rw [hX1b, str_size, Vary.wr_len]; have := Vary.beh_le8 x; omega
      have hz2 : X2b.size = 1 := by rw [hX2b]; rfl
      have hz3 : X3b.size ≤ 1000 := by rw [hX3b, str_size]; omega
      have HVV := hid (show X1b ++ X2b ++ X3b = ⟨(Vary.wr x ++ [UInt8.ofNat wb] ++ Hyb.raw Z wb).toArray⟩ by rw [hX1b, hX2b, hX3b, str_app, str_app])
      have HBB := hid hX2b
      rw [← hX1b] at HV
      rw [← hX3b] at HRW
      have HWB := hid (show (#[Value.int .u8 (wb : Int)] : Array Value).toList = u8s [UInt8.ofNat wb] by simp [u8s]; omega)
      have hwI : (wb : Int) ≤ 64 := by omega
      have hmI : (m : Int) ≤ 63 := by omega
      have hwu : IntKind.u8.wrap (wb : Int) = (wb : Int) := by rw [IntKind.wrap_u8]; omega
      have HSL := fun (B : Option Addr) (c : Nat) (wx : World) => sl_from (P := Try.prog) (t := 22) (e := 33) (m := 1) Try.underlying22 (by kernel_rfl) B (m + 1) c .i64 1 (by omega) wx
      have h11 : ((1 : Nat) : Int) = 1 := rfl
      simp only [Nat.add_sub_cancel, h11] at HSL
      have HFR := hid (fun (B : Option Addr) (c : Nat) (wx : World) (h : Rd wx B (u64s D)) (hc : D.length ≤ c) => h.u64from 1 c hc)
      rw [hdr, hlen0] at HFR
      have HCAP := hid (show D.length = m + 1 from hlen0)
      clear hn hrm hz hzl hdl hdlt hmap hlen0 hdr hD hE hZ hzw hwb hlen hsz c1 hX1b hX2b hX3b hl hnl h64 hr hcap hnI
      go_enter Try.func48, Try.ntmps48
      go_wp2_with fail
      refine Calls.mono H1.out ?_
      rintro e w1 ⟨B, c, rfl, hrd, hx, hcc⟩
      rw [HCAP.out] at hcc
      have HSB := HSL B c
      have HRD := hid (HFR.out B c w1 hrd hcc)
      have HXA := hid hx
      obtain ⟨R2, hR2⟩ : ∃ R2, R2 = slF B 1 c 1 := ⟨_, rfl⟩
      rw [← hR2] at HSB HRD
      rw [HCAP.out]
      clear hrd hx hcc hR2 HSL HFR
      go_wp2_with fail
      refine Calls.mono (HALL.out _ _ _ HRD.out) ?_
      rintro e w2 ⟨B2, c2, rfl, hrz, hx, hcz⟩
      have HRZ := hid hrz
      have HX1 := hid (HXA.out.then hx)
      have HCZ := hid hcz
      clear hrz hx hcz HSB
      go_wp2_with fail
      refine Calls.mono (HWID.out _ _ _ HRZ.out) ?_
      rintro e _ ⟨rfl, rfl⟩
      have HRAW := hid (fun wx (hx : Ext w2 wx) => HRW.out B2 c2 wx (HRZ.out.keep hx) HCZ.out)
      have d0 := ext_cell HX1.out d0
      have d0r := cell_regrown d0
      go_wp2
      refine wp_region_tree (.one 0 true (.one 1 true (.one 2 true (.one 4 true (.one 5 true (.one 9 true (.one 10 true (.two 3 6 (.two 11 6 (.one 6 false (.one 7 false (.one 8 true (.one 12 true (.one 13 true (.one 14 true .nil)))))) (.two 11 7 (.one 7 false (.one 8 true (.one 12 true (.one 13 true (.one 14 true .nil))))) (.one 8 true (.one 11 false (.one 12 true (.one 13 true (.one 14 true .nil))))))) (.two 3 7 (.two 11 7 (.one 7 false (.one 8 true (.one 12 true (.one 13 true (.one 14 true .nil))))) (.one 8 true (.one 11 false (.one 12 true (.one 13 true (.one 14 true .nil)))))) (.one 3 false (.one 8 true (.one 11 false (.one 12 true (.one 13 true (.one 14 true .nil))))))))))))))) (by kernel_rfl) (by kernel_rfl) (fun _ _ _ _ _ h => h) (by kernel_rfl) (by rfl) ?_
      simp only [fillT, List.getD_cons_zero, List.getD_cons_succ]
      have Y0 : Ext w2 w2.drew := (ext_refl w2).draw
      repeat (refine wpTO_val (by rfl) ?_; intro K hK; go_big_quiet_op; go_big_quiet_on)
      refine wpTO_two ?_ ?_
      · refine wpTO_do (by rfl) ?_
        intro K hK
        go_simp
        refine Calls.mono (HV.out _) ?_
        rintro e y1 ⟨rfl, hx⟩
        have Y1 := Ext.then Y0 hx
        refine hK _ _ Y1 ?_
        clear K hK hx
        refine wpTO_two ?_ ?_
        · refine wpTO_do (by rfl) ?_
          intro K hK
          go_simp
          refine Calls.mono (HRAW.out _ Y1) ?_
          rintro e y2 ⟨rfl, hx⟩
          have Y2 := Ext.then Y1 hx
          refine hK _ _ Y2 ?_
          clear K hK hx
          refine wpTO_do (by rfl) ?_
          intro K hK
          go_simp
          have HRB := rd_lit (w := y2) (g := (y2 : World).heap.size) (C := #[.int .u8 (wb : Int)]) (e := 5) (fz := (0, 0)) (cs := u8s [UInt8.ofNat wb]) rfl HWB.out
          have Y3 := Ext.new Y2 (.cells #[.int .u8 (wb : Int)] 5)
          refine hK _ _ Y3 ?_
          clear K hK
          refine wpTO_do (by rfl) ?_
          intro K hK
          have hcv := run_str_rd (P := Try.prog) (src := 65) (dst := 9) (e := 5) Try.underlying65 Try.underlying5 Try.underlying9 _ 1 1 [UInt8.ofNat wb] rfl HRB (fun h => by cases h)
          rw [← HBB.out] at hcv
          go_simp
          refine hK _ _ Y3 ?_
          clear K hK hcv
          repeat (refine wpTO_val (by rfl) ?_; intro K hK; go_big_quiet_op; go_big_quiet_on)
          refine wpTO_nil ?_
          have XE := hid (HX1.out.then Y3)
          clear d0r
          go_wp2
          go_returns
          exact ⟨by rw [← HVV.out]; rfl, XE.out⟩
        · refine wpTO_do (by rfl) ?_
          intro K hK
          go_simp
          have HRB := rd_lit (w := y1) (g := (y1 : World).heap.size) (C := #[.int .u8 (wb : Int)]) (e := 5) (fz := (0, 0)) (cs := u8s [UInt8.ofNat wb]) rfl HWB.out
          have Y4 := Ext.new Y1 (.cells #[.int .u8 (wb : Int)] 5)
          refine hK _ _ Y4 ?_
          clear K hK
          refine wpTO_two ?_ ?_
          · refine wpTO_do (by rfl) ?_
            intro K hK
            go_simp
            refine Calls.mono (HRAW.out _ Y4) ?_
            rintro e y5 ⟨rfl, hx⟩
            have Y5 := Ext.then Y4 hx
            replace HRB := HRB.keep hx
            refine hK _ _ Y5 ?_
            clear K hK hx
            refine wpTO_do (by rfl) ?_
            intro K hK
            have hcv := run_str_rd (P := Try.prog) (src := 65) (dst := 9) (e := 5) Try.underlying65 Try.underlying5 Try.underlying9 _ 1 1 [UInt8.ofNat wb] rfl HRB (fun h => by cases h)
            rw [← HBB.out] at hcv
            go_simp
            refine hK _ _ Y5 ?_
            clear K hK hcv
            repeat (refine wpTO_val (by rfl) ?_; intro K hK; go_big_quiet_op; go_big_quiet_on)
            refine wpTO_nil ?_
            have XE := hid (HX1.out.then Y5)
            clear d0r
            go_wp2
            go_returns
            exact ⟨by rw [← HVV.out]; rfl, XE.out⟩
          · refine wpTO_do (by rfl) ?_
            intro K hK
            have hcv := run_str_rd (P := Try.prog) (src := 65) (dst := 9) (e := 5) Try.underlying65 Try.underlying5 Try.underlying9 _ 1 1 [UInt8.ofNat wb] rfl HRB (fun h => by cases h)
            rw [← HBB.out] at hcv
            go_simp
            refine hK _ _ Y4 ?_
            clear K hK hcv
            repeat (refine wpTO_val (by rfl) ?_; intro K hK; go_big_quiet_op; go_big_quiet_on)
            refine wpTO_do (by rfl) ?_
            intro K hK
            go_simp
            refine Calls.mono (HRAW.out _ Y4) ?_
            rintro e y6 ⟨rfl, hx⟩
            have Y6 := Ext.then Y4 hx
            replace HRB := HRB.keep hx
            refine hK _ _ Y6 ?_
            clear K hK hx
            repeat (refine wpTO_val (by rfl) ?_; intro K hK; go_big_quiet_op; go_big_quiet_on)
            refine wpTO_nil ?_
            have XE := hid (HX1.out.then Y6)
            clear d0r
            go_wp2
            go_returns
            exact ⟨by rw [← HVV.out]; rfl, XE.out⟩
      · refine wpTO_do (by rfl) ?_
        intro K hK
        go_simp
        have HRB := rd_lit (w := w2.drew) (g := (w2 : World).heap.size) (C := #[.int .u8 (wb : Int)]) (e := 5) (fz := (0, 0)) (cs := u8s [UInt8.ofNat wb]) rfl HWB.out
        have Y7 := Ext.new Y0 (.cells #[.int .u8 (wb : Int)] 5)
        refine hK _ _ Y7 ?_
        clear K hK
        refine wpTO_two ?_ ?_
        · refine wpTO_do (by rfl) ?_
          intro K hK
          go_simp
          refine Calls.mono (HV.out _) ?_
          rintro e y8 ⟨rfl, hx⟩
          have Y8 := Ext.then Y7 hx
          replace HRB := HRB.keep hx
          refine hK _ _ Y8 ?_
          clear K hK hx
          refine wpTO_two ?_ ?_
          · refine wpTO_do (by rfl) ?_
            intro K hK
            go_simp
            refine Calls.mono (HRAW.out _ Y8) ?_
            rintro e y9 ⟨rfl, hx⟩
            have Y9 := Ext.then Y8 hx
            replace HRB := HRB.keep hx
            refine hK _ _ Y9 ?_
            clear K hK hx
            refine wpTO_do (by rfl) ?_
            intro K hK
            have hcv := run_str_rd (P := Try.prog) (src := 65) (dst := 9) (e := 5) Try.underlying65 Try.underlying5 Try.underlying9 _ 1 1 [UInt8.ofNat wb] rfl HRB (fun h => by cases h)
            rw [← HBB.out] at hcv
            go_simp
            refine hK _ _ Y9 ?_
            clear K hK hcv
            repeat (refine wpTO_val (by rfl) ?_; intro K hK; go_big_quiet_op; go_big_quiet_on)
            refine wpTO_nil ?_
            have XE := hid (HX1.out.then Y9)
            clear d0r
            go_wp2
            go_returns
            exact ⟨by rw [← HVV.out]; rfl, XE.out⟩
          · refine wpTO_do (by rfl) ?_
            intro K hK
            have hcv := run_str_rd (P := Try.prog) (src := 65) (dst := 9) (e := 5) Try.underlying65 Try.underlying5 Try.underlying9 _ 1 1 [UInt8.ofNat wb] rfl HRB (fun h => by cases h)
            rw [← HBB.out] at hcv
            go_simp
            refine hK _ _ Y8 ?_
            clear K hK hcv
            repeat (refine wpTO_val (by rfl) ?_; intro K hK; go_big_quiet_op; go_big_quiet_on)
            refine wpTO_do (by rfl) ?_
            intro K hK
            go_simp
            refine Calls.mono (HRAW.out _ Y8) ?_
            rintro e y10 ⟨rfl, hx⟩
            have Y10 := Ext.then Y8 hx
            replace HRB := HRB.keep hx
            refine hK _ _ Y10 ?_
            clear K hK hx
            repeat (refine wpTO_val (by rfl) ?_; intro K hK; go_big_quiet_op; go_big_quiet_on)
            refine wpTO_nil ?_
            have XE := hid (HX1.out.then Y10)
            clear d0r
            go_wp2
            go_returns
            exact ⟨by rw [← HVV.out]; rfl, XE.out⟩
        · refine wpTO_do (by rfl) ?_
          intro K hK
          have hcv := run_str_rd (P := Try.prog) (src := 65) (dst := 9) (e := 5) Try.underlying65 Try.underlying5 Try.underlying9 _ 1 1 [UInt8.ofNat wb] rfl HRB (fun h => by cases h)
          rw [← HBB.out] at hcv
          have hcv2 := (show (convert 65 9 (.slice (some ⟨w2.heap.size, 0, none⟩) 1 1)).run Try.prog (w2.alloc (.cells #[.int .u8 (wb : Int)] 5)).drew = .ok (.string X2b) (w2.alloc (.cells #[.int .u8 (wb : Int)] 5)).drew from hcv)
          go_simp
          refine hK _ _ Y7 ?_
          clear K hK hcv hcv2
          refine wpTO_do (by rfl) ?_
          intro K hK
          go_simp
          refine Calls.mono (HV.out _) ?_
          rintro e y11 ⟨rfl, hx⟩
          have Y11 := Ext.then Y7 hx
          replace HRB := HRB.keep hx
          refine hK _ _ Y11 ?_
          clear K hK hx
          repeat (refine wpTO_val (by rfl) ?_; intro K hK; go_big_quiet_op; go_big_quiet_on)
          refine wpTO_do (by rfl) ?_
          intro K hK
          go_simp
          refine Calls.mono (HRAW.out _ Y11) ?_
          rintro e y12 ⟨rfl, hx⟩
          have Y12 := Ext.then Y11 hx
          replace HRB := HRB.keep hx
          refine hK _ _ Y12 ?_
          clear K hK hx
          repeat (refine wpTO_val (by rfl) ?_; intro K hK; go_big_quiet_op; go_big_quiet_on)
          refine wpTO_nil ?_
          have XE := hid (HX1.out.then Y12)
          clear d0r
          go_wp2
          go_returns
          exact ⟨by rw [← HVV.out]; rfl, XE.out⟩
end Go.Proofs.Ytdblegdbfdhepaa
