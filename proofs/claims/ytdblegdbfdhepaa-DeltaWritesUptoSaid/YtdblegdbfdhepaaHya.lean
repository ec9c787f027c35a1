/- Hybrid: how long a row is; the bytes of a run and of blocks: walks. -/
import Derived.Test.YtdblegdbfdhepaaHyp
import Derived.Test.YtdblegdbfdhepaaVaw
import Derived.Test.YtdblegdbfdhepaaBrp
import Derived.Test.YtdblegdbfdhepaaGho
import Derived.Laws.MakeOwn
import Derived.Laws.CopyOwn
namespace Hy
open Go Go.RowKit
theorem made_u64s (k : Nat) : madeCells #[Value.int .u64 0] k = (u64s (List.replicate k 0)).toArray := by
  unfold madeCells u64s
  apply Array.ext'
  apply List.ext_getElem <;> simp [Nat.mod_one]
theorem splice_pad (l : List Nat) (k : Nat) : splice (u64s (List.replicate k 0)) 0 (u64s l) = u64s (l ++ List.replicate (k - l.length) 0) := by
  unfold splice u64s
  simp [List.drop_replicate]
theorem Rd.num0 {w : World} {A : Option Addr} {l : List Nat} (h : Rd w A (u64s l)) (hp : 0 < l.length) :
    ∃ b o, A = some ⟨b, o, none⟩ ∧ b < w.heap.size ∧ ∀ (k x : Nat), l[k]? = some x → w.cell? ⟨b, o + k, none⟩ = some (.int .u64 (x : Int)) := by
  obtain ⟨b, o, e, hb, hc⟩ := h (by rw [u64s_len]; exact hp)
  exact ⟨b, o, e, hb, fun k x hk => hc k _ (by simp [u64s, hk])⟩
theorem rd_of_row {w : World} {g : Nat} {cs : List Value} {e : TypeId} {fz : Nat × Nat} (h : w.heap[g]? = some (.cells cs.toArray e fz)) : Rd w (some ⟨g, 0, none⟩) cs := fun hp => by
  refine ⟨g, 0, rfl, ?_, fun j u hu => ?_⟩
  · rcases Nat.lt_or_ge g w.heap.size with hlt | hge
    · exact hlt
    · rw [Array.getElem?_eq_none hge] at h; cases h
  · simp only [World.cell?, h, Nat.zero_add]
    simpa using hu
end Hy
namespace Go.Proofs.Ytdblegdbfdhepaa
open Go.RowKit Hy
set_option maxHeartbeats 400000 in
theorem row_any (l : List Nat) (A : Option Addr) (n cap : Nat) (w : World) (hn : l.length = n) (hr : Rd w A (u64s l)) (h0 : 0 < n) (hnl : n ≤ 1000000) :
    Calls Try.prog 98 #[.slice A n cap] w fun e w' => e = .returned (.int .i64 (Hyb.row l : Nat)) ∧ Ext w w' := by
  obtain ⟨b1, o1, rfl, l1, c1⟩ := hr.num0 (by omega)
  obtain ⟨y, hy⟩ : ∃ y, l[0]? = some y := ⟨_, List.getElem?_eq_getElem (by omega)⟩
  have HN := hid hn
  have C1 := hid c1
  have H0 := hid h0
  have hnI : (n : Int) ≤ 1000000 := by omega
  have hn0 : (0 : Int) < (n : Int) := by omega
  have HS := hid (fun (k x : Nat) (h1 : 1 ≤ k) h2 h3 h4 => Hyb.row_stop l k x y h1 h2 h3 hy h4)
  have HE := hid (fun h2 => Hyb.row_end l (Nat.lt_of_lt_of_eq h0 hn.symm) h2)
  have dd0 := c1 0 y hy
  rw [Nat.add_zero] at dd0
  obtain ⟨V, hV⟩ : ∃ V, V = Hyb.row l := ⟨_, rfl⟩
  rw [← hV] at HS HE ⊢
  have HY := hid hy
  clear hr c1 hnl hV hn h0 hy
  go_enter Try.func98, Try.ntmps98
  go_wp2
  go_loopw [3] (fun c wr => ∃ k : Nat, 1 ≤ k ∧ k ≤ n ∧ c = .int .i64 k ∧ Hid (∀ j, j < k → l[j]? = l[0]?) ∧ Ext w wr) (fun c _ => n - (intOf c).toNat)
  case atStart => exact ⟨1, Nat.le_refl _, by have := H0.out; omega, rfl, hid (fun j hj => by rw [show j = 0 by omega]), ext_refl _⟩
  case round =>
    obtain ⟨k, hk1, hk, rfl, HT, X⟩ := hrel
    have HK1 := hid hk1
    have hk1I : (1 : Int) ≤ (k : Int) := by omega
    have d0 := (X.cell (p := ⟨b1, o1, none⟩) l1).trans dd0
    by_cases hlt : k < n
    · obtain ⟨x, hx⟩ : ∃ x, l[k]? = some x := ⟨_, List.getElem?_eq_getElem (by rw [HN.out]; exact hlt)⟩
      have d1 := (X.cell (p := ⟨b1, o1 + k, none⟩) l1).trans (C1.out k x hx)
      have HXX := hid hx
      clear hk1 hx dd0
      by_cases hxy : x = y
      · subst hxy
        have hb : ((x : Int) == (x : Int)) = true := by simp
        go_wp2_with fail
        go_quiet (fail)
        go_wp2
        go_roundw
        case rel => exact ⟨k + 1, by omega, by omega, by go_num, hid (fun j hj => by
          rcases Nat.lt_or_ge j k with h4 | h4
          · exact HT.out j h4
          · rw [show j = k by omega, HXX.out, HY.out]), X.draws _⟩
        case measure => simp [intOf]; omega
      · have hb : ((x : Int) == (y : Int)) = false := by rw [beq_eq_false_iff_ne]; omega
        go_wp2_with fail
        go_quiet (fail)
        go_wp2
        go_returns
        exact ⟨by rw [HS.out k x HK1.out HT.out HXX.out hxy]; rfl, X.draws _⟩
    · obtain rfl : k = n := by omega
      have HE2 := hid (HE.out (fun j h => HT.out j (by rw [← HN.out]; exact h)))
      clear hk1 dd0
      go_wp2_with fail
      go_quiet (fail)
      go_wp2
      go_returns
      exact ⟨by rw [HE2.out, HN.out]; rfl, X.draws _⟩
theorem info_u64 : (Try.prog.info? 33).map (fun i => (i.zero, i.size, i.bytes)) = some (some (.int .u64 0), 1, 8) := by kernel_rfl
theorem mk64 (k : Nat) (hk : k ≤ 1000000000000) (w : World) : (Instr.makeSlice 22 (.int .i64 (k : Int)) (.int .i64 (k : Int))).run Try.prog w =
    .ok (.slice (some ⟨w.heap.size, 0, none⟩) k k) (w.alloc (.cells (u64s (List.replicate k 0)).toArray 33)) := by
  obtain ⟨i, hi, hz, hs, hb⟩ := info_parts info_u64
  rw [run_make w 22 33 i (.int .u64 0) Try.underlying22 hi hz .i64 .i64 (k : Int) (k : Int) (by omega) (by omega) (by rw [hb]; omega) (by omega)]
  rw [hs, Nat.mul_one, Int.toNat_natCast, show (Value.int .u64 0).cells = #[.int .u64 0] from rfl, made_u64s]
set_option maxRecDepth 100000 in
set_option maxHeartbeats 1600000 in
theorem blkBytes_any (l : List Nat) (A : Option Addr) (n cap wd : Nat) (w : World) (hn : l.length = n) (hr : Rd w A (u64s l)) (h0 : 0 < n) (hnl : n ≤ 64) (hl : ∀ x ∈ l, x < 2 ^ wd) (hwd : wd ≤ 64) :
    Calls Try.prog 118 #[.slice A n cap, .int .i64 wd] w fun e w' => e = .returned (.string ⟨(Hyb.bytes wd (.blk l)).toArray⟩) ∧ Ext w w' := by
  obtain ⟨k, hk⟩ : ∃ k, k = (n + 7) / 8 * 8 := ⟨_, rfl⟩
  have hpl := Hyb.pad_len l
  rw [hn, ← hk] at hpl
  have hpd : l ++ List.replicate (k - l.length) 0 = Hyb.pad l := by unfold Hyb.pad; rw [hn, hk]
  have hmk := mk64 k (by omega)
  have HS := hid (show (Try.prog.info? 33).map (·.size) = some 1 by kernel_rfl)
  have HA := hid (show (u64s l).length = Nat.min n k by rw [u64s_len, hn]; exact (Nat.min_eq_left (by omega)).symm)
  have HFT := hid (show 0 + (u64s l).length ≤ (u64s (List.replicate k 0)).length by rw [u64s_len, u64s_len, List.length_replicate, hn]; omega)
  have HBK := hid (show (w.alloc (.cells (u64s (List.replicate k 0)).toArray 33)).heap[w.heap.size]? = some (.cells (u64s (List.replicate k 0)).toArray 33 (0, 0)) from Blk.new w _ _)
  have HSP := hid ((splice_pad l k).trans (by rw [hpd]))
  have HC := hid (fun _ : 0 < (u64s l).length => show (some (⟨w.heap.size, 0, none⟩ : Addr)) = some ⟨w.heap.size, 0, none⟩ ∧ ∃ ad, A = some ad ∧ ∀ j v, (u64s l)[j]? = some v → (w.alloc (.cells (u64s (List.replicate k 0)).toArray 33)).cell? (ad.add j) = some v from by
    obtain ⟨b, o, e, l1, c1⟩ := (hr.keep ((ext_refl w).new _)) (by rw [u64s_len]; omega)
    exact ⟨rfl, _, e, fun j v hv => by rw [add_none]; exact c1 j v hv⟩)
  have HW := hid (fun wx => write_any (k / 4 + 1) wx (by omega))
  have HR := hid (fun (wx : World) C c (h : Rd wx C (u64s (Hyb.pad l))) => raw_any (Hyb.pad l) C k c wd wx hpl h (Hyb.pad_lt l wd hl) (by omega) hwd)
  have HV := hid (show (⟨(Vary.wr (k / 4 + 1)).toArray⟩ : ByteArray) ++ ⟨(Bits.packed (Hyb.pad l) wd).toArray⟩ = ⟨(Hyb.bytes wd (.blk l)).toArray⟩ by
    rw [str_app, Hyb.bytes_blk, hpl, show 2 * k / 8 = k / 4 by omega])
  obtain ⟨VS, hVS⟩ : ∃ VS : ByteArray, VS = ⟨(Hyb.bytes wd (.blk l)).toArray⟩ := ⟨_, rfl⟩
  obtain ⟨PD, hPD⟩ : ∃ PD, PD = Hyb.pad l := ⟨_, rfl⟩
  rw [← hVS] at HV ⊢
  rw [← hPD] at HV HR HSP
  obtain ⟨q, hq⟩ : ∃ q, q = k / 4 + 1 := ⟨_, rfl⟩
  rw [← hq] at HW HV
  have hkI : (k : Int) ≤ 64 := by omega
  have hk0 : (0 : Int) ≤ (k : Int) := by omega
  have hw1 : IntKind.i64.wrap (IntKind.i64.wrap ((n : Int) + 8) - 1) = (n : Int) + 7 := by rw [IntKind.wrap_i64, IntKind.wrap_i64]; omega
  have hw2 : ((n : Int) + 7).tdiv 8 * 8 = (k : Int) := by rw [Int.tdiv_eq_ediv_of_nonneg (by omega)]; omega
  have hw3 : (2 * (k : Int)).tdiv 8 + 1 = (q : Int) := by rw [Int.tdiv_eq_ediv_of_nonneg (by omega)]; omega
  have hw4 : (2 * (k : Int)) / 8 + 1 = (q : Int) := by omega
  have hw5 : ((n : Int) + 8 - 1) / 8 * 8 = (k : Int) := by omega
  have hqI : (q : Int) ≤ 17 := by omega
  have hq0 : (0 : Int) ≤ (q : Int) := by omega
  have hnI : (n : Int) ≤ 64 := by omega
  have hz1 : (Vary.wr q).length ≤ 9 := by rw [Vary.wr_len]; have := Vary.beh_le8 q; omega
  have hz2 : (Bits.packed PD wd).length ≤ 600 := by
    rw [Bits.packed_len, hPD, hpl]
    have h := Nat.mul_le_mul (show k ≤ 64 by omega) hwd
    unfold Bits.size; omega
  clear hpl hpd hn hr hnl hl hwd hk hq hVS hPD h0
  go_enter Try.func118, Try.ntmps118
  go_wp2_with (with_reducible (show wpList _ _ _ (⟨some 15, _, _, _, _, _⟩ :: _) _ _); go_loud (refine wpList_copy_splice rfl (.tmp 13) (.tmp 14) 22 103 rfl 33 Try.underlying22 HS.out _ _ _ _ _ _ rfl rfl w.heap.size 0 (u64s (List.replicate k 0)) 33 HBK.out (u64s l) HA.out HC.out HFT.out (u64s_one _) w.heap.size w (Ext.new (ext_refl w) _) (Nat.le_refl _) ?_; intro w2 HG HB))
  have HRD := hid (show Rd w2 (some ⟨w.heap.size, 0, none⟩) (u64s PD) from rd_of_row (by rw [← HSP.out]; exact HG.out))
  have HX : Hid (Ext w w2) := hid HB
  clear HG HB HC HBK HFT HA HS HSP hmk
  refine Calls.mono (HW.out _) ?_
  rintro e w3 ⟨rfl, hx⟩
  replace HX := hid (HX.out.then hx)
  replace HRD := hid (HRD.out.keep hx)
  clear hx
  go_wp2_with fail
  refine Calls.mono (HR.out _ _ _ HRD.out) ?_
  rintro e w4 ⟨rfl, hx⟩
  replace HX := hid (HX.out.then hx)
  clear hx
  go_wp2
  go_returns
  exact ⟨by rw [← HV.out]; rfl, HX.out⟩
set_option maxRecDepth 100000 in
set_option maxHeartbeats 1600000 in
theorem runBytes_any (x m wd : Nat) (w : World) (hm1 : 1 ≤ m) (hm : m ≤ 64) (hx : x < 2 ^ wd) (hwd : wd ≤ 64) :
    Calls Try.prog 119 #[.agg #[.int .u64 (x : Int), .int .i64 (m : Int)], .int .i64 wd] w fun e w' => e = .returned (.string ⟨(Hyb.bytes wd (.run x m)).toArray⟩) ∧ Ext w w' := by
  have HW := hid (fun wx => write_any (2 * m) wx (by omega))
  have HR := hid (fun (wx : World) C c (h : Rd wx C (u64s [x])) => raw_any [x] C 1 c wd wx rfl h (by simpa using hx) (by omega) hwd)
  have HV := hid (show (⟨(Vary.wr (2 * m)).toArray⟩ : ByteArray) ++ ⟨(Bits.packed [x] wd).toArray⟩ = ⟨(Hyb.bytes wd (.run x m)).toArray⟩ by rw [str_app, Hyb.bytes_run])
  obtain ⟨VS, hVS⟩ : ∃ VS : ByteArray, VS = ⟨(Hyb.bytes wd (.run x m)).toArray⟩ := ⟨_, rfl⟩
  rw [← hVS] at HV ⊢
  obtain ⟨q, hq⟩ : ∃ q, q = 2 * m := ⟨_, rfl⟩
  rw [← hq] at HW HV
  have hw1 : (2 * (m : Int)) = (q : Int) := by omega
  have hqI : (q : Int) ≤ 128 := by omega
  have hq0 : (0 : Int) ≤ (q : Int) := by omega
  have hmI : (m : Int) ≤ 64 := by omega
  have hw2 : IntKind.i64.wrap (2 * (m : Int)) = (q : Int) := by rw [IntKind.wrap_i64]; omega
  have hw3 : IntKind.u64.wrap (q : Int) = (q : Int) := by rw [IntKind.wrap_u64]; omega
  have B0 := (Blk.new w 105 #[.int .u64 (x : Int), .int .i64 (m : Int)]).cell
  have p0 : (w.alloc (.cells #[.int .u64 (x : Int), .int .i64 (m : Int)] 105)).cell? ⟨w.heap.size, 0, none⟩ = some (.int .u64 (x : Int)) := B0 0
  have p1 : (w.alloc (.cells #[.int .u64 (x : Int), .int .i64 (m : Int)] 105)).cell? ⟨w.heap.size, 1, none⟩ = some (.int .i64 (m : Int)) := B0 1
  have X0 := (ext_refl w).new (.cells #[.int .u64 (x : Int), .int .i64 (m : Int)] 105)
  obtain ⟨W1, hW1⟩ : ∃ W1, W1 = w.alloc (.cells #[.int .u64 (x : Int), .int .i64 (m : Int)] 105) := ⟨_, rfl⟩
  rw [← hW1] at p0 p1 X0
  have p0r := cell_regrown p0
  have p1r := cell_regrown p1
  have HX0 := hid X0
  have HW1 := hid hW1
  clear X0 hW1
  have hz1 : (Vary.wr q).length ≤ 9 := by rw [Vary.wr_len]; have := Vary.beh_le8 q; omega
  have hz2 : (Bits.packed [x] wd).length ≤ 600 := by
    rw [Bits.packed_len, List.length_singleton]
    unfold Bits.size; omega
  clear B0 hm1 hm hx hwd hVS hq
  go_enter Try.func119, Try.ntmps119
  go_wp2_with fail
  rw [← HW1.out]
  refine wp_region_tree (.one 0 true (.one 1 true (.one 2 true (.one 3 true (.one 5 true (.one 6 true (.one 8 true (.two 4 7 (.one 7 false (.one 9 false (.one 10 true (.one 11 true .nil)))) (.two 4 9 (.one 9 false (.one 10 true (.one 11 true .nil))) (.one 4 false (.one 10 true (.one 11 true .nil))))))))))) ) (by kernel_rfl) (by kernel_rfl) (fun _ _ _ _ _ h => h) (by kernel_rfl) (by rfl) ?_
  simp only [fillT, List.getD_cons_zero, List.getD_cons_succ]
  have X1 := (ext_refl W1).draw
  repeat (refine wpTO_val (by rfl) ?_; intro K hK; go_big_quiet_op; go_big_quiet_on)
  refine wpTO_two ?_ ?_
  · refine wpTO_do (by rfl) ?_
    intro K hK
    go_simp
    refine Calls.mono (HW.out _) ?_
    rintro e y1 ⟨rfl, hx⟩
    have X2 := X1.then hx
    refine hK _ _ X2 ?_
    clear K hK hx
    refine wpTO_do (by rfl) ?_
    intro K hK
    go_simp
    have HRD := rd_lit (w := y1) (g := (y1).heap.size) (C := #[.int .u64 (x : Int)]) (e := 33) (fz := (0, 0)) (cs := u64s [x]) rfl rfl
    have X3 := Ext.new X2 (.cells #[.int .u64 (x : Int)] 33)
    refine hK _ _ X3 ?_
    clear K hK
    refine wpTO_do (by rfl) ?_
    intro K hK
    go_simp
    refine Calls.mono (HR.out _ _ _ (HRD)) ?_
    rintro e y2 ⟨rfl, hx⟩
    have X4 := X3.then hx
    refine hK _ _ X4 ?_
    clear K hK hx
    repeat (refine wpTO_val (by rfl) ?_; intro K hK; go_big_quiet_op; go_big_quiet_on)
    refine wpTO_nil ?_
    have XE := hid (HX0.out.then X4)
    clear p0r p1r p0 p1
    go_wp2
    go_returns
    exact ⟨by rw [← HV.out]; rfl, XE.out⟩
  · refine wpTO_do (by rfl) ?_
    intro K hK
    go_simp
    have HRD := rd_lit (w := W1.drew) (g := (W1.drew).heap.size) (C := #[.int .u64 (x : Int)]) (e := 33) (fz := (0, 0)) (cs := u64s [x]) rfl rfl
    have X2 := Ext.new X1 (.cells #[.int .u64 (x : Int)] 33)
    refine hK _ _ X2 ?_
    clear K hK
    refine wpTO_two ?_ ?_
    · refine wpTO_do (by rfl) ?_
      intro K hK
      go_simp
      refine Calls.mono (HW.out _) ?_
      rintro e y1 ⟨rfl, hx⟩
      have X3 := X2.then hx
      refine hK _ _ X3 ?_
      have HRD2 := HRD.keep hx
      clear K hK hx
      refine wpTO_do (by rfl) ?_
      intro K hK
      go_simp
      refine Calls.mono (HR.out _ _ _ (HRD2)) ?_
      rintro e y2 ⟨rfl, hx⟩
      have X4 := X3.then hx
      refine hK _ _ X4 ?_
      clear K hK hx
      repeat (refine wpTO_val (by rfl) ?_; intro K hK; go_big_quiet_op; go_big_quiet_on)
      refine wpTO_nil ?_
      have XE := hid (HX0.out.then X4)
      clear p0r p1r p0 p1
      go_wp2
      go_returns
      exact ⟨by rw [← HV.out]; rfl, XE.out⟩
    · refine wpTO_do (by rfl) ?_
      intro K hK
      go_simp
      refine Calls.mono (HR.out _ _ _ (HRD)) ?_
      rintro e y1 ⟨rfl, hx⟩
      have X3 := X2.then hx
      refine hK _ _ X3 ?_
      clear K hK hx
      refine wpTO_do (by rfl) ?_
      intro K hK
      go_simp
      refine Calls.mono (HW.out _) ?_
      rintro e y2 ⟨rfl, hx⟩
      have X4 := X3.then hx
      refine hK _ _ X4 ?_
      clear K hK hx
      repeat (refine wpTO_val (by rfl) ?_; intro K hK; go_big_quiet_op; go_big_quiet_on)
      refine wpTO_nil ?_
      have XE := hid (HX0.out.then X4)
      clear p0r p1r p0 p1
      go_wp2
      go_returns
      exact ⟨by rw [← HV.out]; rfl, XE.out⟩
end Go.Proofs.Ytdblegdbfdhepaa
