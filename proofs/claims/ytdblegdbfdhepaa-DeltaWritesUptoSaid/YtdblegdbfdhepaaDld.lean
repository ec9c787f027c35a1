/- Delta: the closed test; the laws Back, Reads: walks. -/
import Derived.Test.YtdblegdbfdhepaaDlc
namespace Hy.Dlt
open Go
theorem df_a : df [5, 7, 4] = ([5, 2, 18446744073709551613], 0) := by decide +kernel
theorem sm_a : sm [5, 2, 18446744073709551613] = ([5, 7, 4], 0) := by decide +kernel
theorem wrt_a : wrt [5, 7, 4] = ([5, 3, 3, 44, 0, 0], 0) := by decide +kernel
theorem rds_a : rds [5, 3, 3, 44, 0, 0] 3 = ([5, 7, 4], 0) := by decide +kernel
theorem rds_b : rds [5, 0] 2 = ([], 5) := by decide +kernel
theorem zig_a : zig 18446744073709551613 = 5 := by decide +kernel
theorem zag_a : zag 5 = 18446744073709551613 := by decide +kernel
/-- what is written is read -/
theorem rds_wrt (l : List Nat) (h : l.length ≤ 64) (hl : ∀ x ∈ l, x < 18446744073709551616) : rds (bys l) l.length = (l, 0) := by
  cases l with
  | nil => rw [bys_nil]; exact rds_zero
  | cons x r =>
    have hx := hl x (by simp)
    have hz := zs_lt (x :: r)
    have hzl : (zs (x :: r)).length = r.length := by rw [zs_len]; rfl
    have hw64 := Bits.width_le64 (zs (x :: r)) hz
    have hzw := (Bits.width_le_iff (zs (x :: r)) _ hz hw64).1 (Nat.le_refl _)
    have hr := Vary.rd_wr x ([UInt8.ofNat (Bits.width (zs (x :: r)))] ++ Hyb.raw (zs (x :: r)) (Bits.width (zs (x :: r)))) hx
    have hd : (bys (x :: r)).drop (Vary.beh x + 1) = UInt8.ofNat (Bits.width (zs (x :: r))) :: Hyb.raw (zs (x :: r)) (Bits.width (zs (x :: r))) := by
      rw [bys_cons, List.append_assoc, ← Vary.wr_len, List.drop_left]; rfl
    rw [← List.append_assoc, ← bys_cons] at hr
    have hu : (UInt8.ofNat (Bits.width (zs (x :: r)))).toNat = Bits.width (zs (x :: r)) := by simp; omega
    have hlen : (x :: r).length = r.length + 1 := rfl
    have hrd := Hyb.rdl_raw (l := zs (x :: r)) (k := Bits.width (zs (x :: r))) hw64 (by rw [hzl]; rw [hlen] at h; omega) hzw []
    rw [List.append_nil, if_pos rfl, hzl] at hrd
    have hrs : rst ((bys (x :: r)).drop (Vary.beh x + 1)) (r.length : Int) = ((zs (x :: r)).map zag, 0) := by
      rw [hd]
      have h1 := @rst_ok (UInt8.ofNat (Bits.width (zs (x :: r)))) (Hyb.raw (zs (x :: r)) (Bits.width (zs (x :: r)))) (r.length : Int)
      rw [hu, hrd] at h1
      exact h1 rfl rfl
    have hm : (((x :: r).length : Nat) : Int) - 1 = (r.length : Int) := by rw [hlen]; omega
    have hok := rds_ok (s := bys (x :: r)) (many := (((x :: r).length : Nat) : Int)) (by rw [hlen]; omega) (by omega) hr
    rw [hm, hrs] at hok
    rw [hok rfl]
    have hmz : (zs (x :: r)).map zag = difs x r := map_zag_zig _ (difs_lt x r)
    show (sums 0 (x :: (zs (x :: r)).map zag), 0) = _
    rw [hmz]
    show (ad 0 x :: sums (ad 0 x) (difs x r), 0) = _
    rw [ad_zero x hx, sums_difs x r hx (fun y hy => hl y (by simp [hy]))]
end Hy.Dlt
namespace Go.Proofs.Ytdblegdbfdhepaa
open Go.RowKit Hy
theorem dDiffs_of (l r : List Nat) (er : Nat) (A : Option Addr) (n cap : Nat) (w : World) (hn : l.length = n) (hr : Rd w A (u64s l)) (hl : ∀ x ∈ l, x < 18446744073709551616) (hnl : n ≤ 9223372036854775806) (h : Dlt.df l = (r, er)) :
    Calls Try.prog 39 #[.slice A n cap] w fun e w' => ∃ B c, e = .returned (.tuple #[.slice B r.length c, .int .i64 er]) ∧ Rd w' B (u64s r) ∧ Ext w w' := by
  have h1 := diffs_any l A n cap w hn hr hl hnl
  rw [h] at h1
  exact Calls.mono h1 fun e w' ⟨B, c, h1, h2, h3, _⟩ => ⟨B, c, h1, h2, h3⟩
theorem dSums_of (l r : List Nat) (er : Nat) (A : Option Addr) (n cap : Nat) (w : World) (hn : l.length = n) (hr : Rd w A (u64s l)) (hl : ∀ x ∈ l, x < 18446744073709551616) (hnl : n ≤ 9223372036854775806) (h : Dlt.sm l = (r, er)) :
    Calls Try.prog 40 #[.slice A n cap] w fun e w' => ∃ B c, e = .returned (.tuple #[.slice B r.length c, .int .i64 er]) ∧ Rd w' B (u64s r) ∧ Ext w w' := by
  have h1 := sums_any l A n cap w hn hr hl hnl
  rw [h] at h1
  exact Calls.mono h1 fun e w' ⟨B, c, h1, h2, h3, _⟩ => ⟨B, c, h1, h2, h3⟩
theorem dWrite_of (l : List Nat) (r : List UInt8) (er : Nat) (A : Option Addr) (n cap : Nat) (w : World) (hn : l.length = n) (hr : Rd w A (u64s l)) (hcap : n ≤ cap) (hl : ∀ x ∈ l, x < 18446744073709551616) (hnl : n ≤ 9223372036854775806) (h : Dlt.wrt l = (r, er)) :
    Calls Try.prog 48 #[.slice A n cap] w fun e w' => e = .returned (.tuple #[.string ⟨r.toArray⟩, .int .i64 er]) ∧ Ext w w' := by
  have h1 := dWrite_any l A n cap w hn hr hcap hl hnl
  rw [h] at h1; exact h1
theorem dRead_of (s : List UInt8) (many : Int) (w : World) (r : List Nat) (er : Nat) (hs : s.length ≤ 281474976710656) (h : Dlt.rds s many = (r, er)) :
    Calls Try.prog 49 #[.string ⟨s.toArray⟩, .int .i64 many] w fun e w' => ∃ B c, e = .returned (.tuple #[.slice B r.length c, .int .i64 er]) ∧ Rd w' B (u64s r) ∧ Ext w w' := by
  have h1 := dRead_any ⟨s.toArray⟩ many w (by rw [str_size]; exact hs)
  rw [show (⟨s.toArray⟩ : ByteArray).data.toList = s from rfl, h] at h1
  exact Calls.mono h1 fun e w' ⟨B, c, h1, h2, h3, _⟩ => ⟨B, c, h1, h2, h3⟩
set_option maxRecDepth 100000 in
set_option maxHeartbeats 1000000 in
theorem deltaBegun_any (w : World) : Calls Try.prog 43 #[] w fun e w' => e = .returned (.bool true) ∧ Ext w w' := by
  have H1 := hid (fun A n cap w hn hr hnl => dDiffs_of _ _ _ A n cap w hn hr (by decide) hnl Dlt.df_a)
  have H2 := hid (fun A n cap w hn hr hnl => dSums_of _ _ _ A n cap w hn hr (by decide) hnl Dlt.sm_a)
  have H3 := hid (fun A n cap w hn hr hcap hnl => dWrite_of _ _ _ A n cap w hn hr hcap (by decide) hnl Dlt.wrt_a)
  have H4 := hid (fun w => dRead_of _ _ w _ _ (by decide) Dlt.rds_a)
  have H5 := hid (fun w => dRead_of _ _ w _ _ (by decide) Dlt.rds_b)
  have H6 := hid (fun w => show Calls Try.prog 44 #[.int .u64 18446744073709551613] w fun e w' => e = .returned (.int .u64 5) ∧ w = w' from by
    have h := zig_any 18446744073709551613 w (by decide); rw [Dlt.zig_a] at h; exact h)
  have H7 := hid (fun w => show Calls Try.prog 46 #[.int .u64 5] w fun e w' => e = .returned (.int .u64 18446744073709551613) ∧ w = w' from by
    have h := zag_any 5 w (by decide); rw [Dlt.zag_a] at h; exact h)
  go_enter Try.func43, Try.ntmps43
  go_wp2_with fail
  refine Calls.mono (H1.out _ 3 _ _ rfl (rd_lit rfl rfl) (by decide)) ?_
  rintro e w1 ⟨A1, c1, rfl, hr1, hx⟩
  have X1 := hid (((ext_refl w).new _).then hx)
  have R1 := hid hr1
  clear hx hr1
  go_wp2_with fail
  refine Calls.mono (H2.out _ 3 _ _ rfl (rd_lit rfl rfl) (by decide)) ?_
  rintro e w2 ⟨A2, c2, rfl, hr2, hx⟩
  replace R1 := hid ((R1.out.keep ((ext_refl _).new _)).keep hx)
  replace X1 := hid ((X1.out.new _).then hx)
  have R2 := hid hr2
  clear hx hr2
  go_wp2_with fail
  refine Calls.mono (H3.out _ 3 _ _ rfl (rd_lit rfl rfl) (by decide) (by decide)) ?_
  rintro e w3 ⟨rfl, hx⟩
  replace R1 := hid ((R1.out.keep ((ext_refl _).new _)).keep hx)
  replace R2 := hid ((R2.out.keep ((ext_refl _).new _)).keep hx)
  replace X1 := hid ((X1.out.new _).then hx)
  clear hx
  go_wp2_with fail
  refine Calls.mono (H4.out _) ?_
  rintro e w4 ⟨A4, c4, rfl, hr4, hx⟩
  replace R1 := hid (R1.out.keep hx)
  replace R2 := hid (R2.out.keep hx)
  replace X1 := hid (X1.out.then hx)
  have R4 := hid hr4
  clear hx hr4
  go_wp2_with fail
  refine Calls.mono (H5.out _) ?_
  rintro e w5 ⟨A5, c5, rfl, _, hx⟩
  replace R1 := hid (R1.out.keep hx)
  replace R2 := hid (R2.out.keep hx)
  replace R4 := hid (R4.out.keep hx)
  replace X1 := hid (X1.out.then hx)
  clear hx
  go_wp2_with fail
  refine Calls.mono (sameNums_self _ _ _ 3 _ _ _ rfl (R1.out.keep ((ext_refl _).new _)) (rd_lit rfl rfl) (by decide)) ?_
  rintro e w6 ⟨rfl, hx⟩
  replace R2 := hid ((R2.out.keep ((ext_refl _).new _)).keep hx)
  replace R4 := hid ((R4.out.keep ((ext_refl _).new _)).keep hx)
  replace X1 := hid ((X1.out.new _).then hx)
  clear hx
  go_wp2_with fail
  refine Calls.mono (sameNums_self _ _ _ 3 _ _ _ rfl (R2.out.keep ((ext_refl _).new _)) (rd_lit rfl rfl) (by decide)) ?_
  rintro e w7 ⟨rfl, hx⟩
  replace R4 := hid ((R4.out.keep ((ext_refl _).new _)).keep hx)
  replace X1 := hid ((X1.out.new _).then hx)
  clear hx
  go_wp2_with fail
  refine Calls.mono (H6.out _) ?_
  rintro e _ ⟨rfl, rfl⟩
  go_wp2_with fail
  refine Calls.mono (H7.out _) ?_
  rintro e _ ⟨rfl, rfl⟩
  go_wp2_with fail
  refine Calls.mono (sameNums_self _ _ _ 3 _ _ _ rfl (R4.out.keep ((ext_refl _).new _)) (rd_lit rfl rfl) (by decide)) ?_
  rintro e w8 ⟨rfl, hx⟩
  replace X1 := hid ((X1.out.new _).then hx)
  clear hx
  go_wp2
  go_returns
  exact ⟨rfl, X1.out⟩
end Go.Proofs.Ytdblegdbfdhepaa
