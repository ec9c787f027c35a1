/- Hybrid: the reader: numbers, run: walks. -/
import Derived.Test.YtdblegdbfdhepaaHyd
import Derived.Test.YtdblegdbfdhepaaHys
import Derived.Test.YtdblegdbfdhepaaBup
import Derived.Test.YtdblegdbfdhepaaVrd
namespace Go.Proofs.Ytdblegdbfdhepaa
open Go.RowKit Hy
/-- the reader lies in a block; what it has read so far is a row of its own -/
def HyRd (g : Nat) (w : World) (s : List UInt8) (wd want : Nat) (o : List Nat) (v : Value) : Prop :=
  Blk w g 58 #[.string ⟨s.toArray⟩, .int .i64 wd, .int .i64 want, v] ∧ w.ownsRow (g + 1) 33 1 v o.length (u64s o)
set_option maxHeartbeats 800000 in
theorem hyNumbers_any (s : List UInt8) (wd want many : Nat) (o : List Nat) (vo : Value) (g : Nat) (w : World) (h : HyRd g w s wd want o vo) (hm : many ≤ 64) (hwd : wd ≤ 64) :
    Calls Try.prog 85 #[.pointer (some ⟨g, 0, none⟩), .int .i64 many] w fun e w' => ∃ v, e = .returned (.tuple #[v, .int .i64 ((Hyb.nmb wd many s).2.1 : Nat)]) ∧
      w'.ownsRow w.heap.size 33 1 v (Hyb.nmb wd many s).1.length (u64s (Hyb.nmb wd many s).1) ∧ HyRd g w' (Hyb.nmb wd many s).2.2 wd want o vo ∧ But g w w' := by
  obtain ⟨hB, hO⟩ := h
  have HO := hid hO
  obtain ⟨XX, hXX⟩ : ∃ XX : ByteArray, XX = ⟨s.toArray⟩ := ⟨_, rfl⟩
  have hXs : XX.size = s.length := by rw [hXX, str_size]
  have HXd := hid (show XX.data.toList = s by rw [hXX])
  rw [← hXX] at hB
  have HXX := hid hXX
  have HB := hid hB
  have hc0 := hB.cell 0
  have hf0 := hB.frozen 0
  have hc1 := hB.cell 1
  obtain ⟨p, hp⟩ : ∃ p, p = many * wd := ⟨_, rfl⟩
  have hmul : (many : Int) * (wd : Int) = (p : Int) := by rw [hp]; simp
  have hpb : p ≤ 64 * 64 := by rw [hp]; exact Nat.mul_le_mul hm hwd
  have hpI : (p : Int) ≤ 4096 := by omega
  obtain ⟨z, hz⟩ : ∃ z, z = Bits.size many wd := ⟨_, rfl⟩
  have hz2 : z = (p + 7) / 8 := by rw [hz, hp]; rfl
  have hq1 : ((p : Int) + 7).tdiv 8 = (z : Int) := by rw [Int.tdiv_eq_ediv_of_nonneg (by omega)]; omega
  have hq2 : ((p : Int) + 7) / 8 = (z : Int) := by omega
  have hmI : (many : Int) ≤ 64 := by omega
  have hwI : (wd : Int) ≤ 64 := by omega
  by_cases hs : s.length < z
  · rw [Hyb.nmb_none (by rw [← hz]; exact hs)]
    have hsI : (XX.size : Int) < (z : Int) := by omega
    clear hB hO hXX hp hpb hz hz2 hs hm hwd
    go_enter Try.func85, Try.ntmps85
    go_wp2
    go_returns
    exact ⟨.slice none 0 0, rfl, World.ownsRow_nil _ _ _ _, ⟨by rw [← HXX.out]; exact HB.out, HO.out⟩, but_refl _ _⟩
  · rw [Hyb.nmb_some (by rw [← hz]; exact hs), ← hz]
    have hsI : (z : Int) ≤ (XX.size : Int) := by omega
    have i2 := fun wx : World => run_to (P := Try.prog) (w := wx) Try.underlying9 XX .i64 z (by omega)
    have i3 := fun wx : World => run_from (P := Try.prog) (w := wx) Try.underlying9 XX .i64 z (by omega)
    rw [HXd.out] at i2 i3
    obtain ⟨XT, hXT⟩ : ∃ XT : ByteArray, XT = ⟨(s.take z).toArray⟩ := ⟨_, rfl⟩
    obtain ⟨XD, hXD⟩ : ∃ XD : ByteArray, XD = ⟨(s.drop z).toArray⟩ := ⟨_, rfl⟩
    rw [← hXT] at i2
    rw [← hXD] at i3
    have HXD := hid hXD
    have CU := fun wx : World => hid (unpack_own XT many wd wx)
    rw [show XT.data.toList = s.take z from by rw [hXT]] at CU
    have HLT := hid hB.lt
    clear hB hO hXX hp hpb hz hz2 hs hm hwd hXT hXD
    go_enter Try.func85, Try.ntmps85
    have B1 := hid (HB.out.set 0 (.string XD))
    have hc1' := B1.out.cell 1
    go_wp2_with fail
    refine Calls.mono (CU _).out ?_
    rintro e w1 ⟨v, rfl, hown, hx⟩
    have HOW := hid hown
    have HX := hid hx
    clear hown hx
    go_wp2
    go_returns
    refine ⟨v, rfl, ?_, ⟨?_, ?_⟩, ?_⟩
    · have h1 := HOW.out
      rwa [show (w.setCell ⟨g, 0, none⟩ (.string XD)).heap.size = w.heap.size from by simp] at h1
    · rw [← HXD.out]
      exact (B1.out.keep HX.out).cast rfl
    · exact own_ext (own_but HO.out (but_put _ _ _) (Nat.lt_succ_self _)) HX.out
    · exact (but_put w ⟨g, 0, none⟩ _).ext HX.out
set_option maxRecDepth 100000 in
set_option maxHeartbeats 1600000 in
theorem hyRun_any (s : List UInt8) (wd want m x : Nat) (o : List Nat) (vo : Value) (g : Nat) (w : World) (h : HyRd g w s wd want o vo) (hm1 : 1 ≤ m) (hm : o.length + m ≤ 64) (hwd : wd ≤ 64)
    (hx1 : (Hyb.nmb wd 1 s).2.1 = 0 → (Hyb.nmb wd 1 s).1 = [x]) (hx : x < 18446744073709551616) :
    Calls Try.prog 84 #[.pointer (some ⟨g, 0, none⟩), .int .i64 m] w fun e w' => e = .returned (.int .i64 ((Hyb.nmb wd 1 s).2.1 : Nat)) ∧ Below g w w' ∧
      ((Hyb.nmb wd 1 s).2.1 = 0 → ∃ v, HyRd g w' (Hyb.nmb wd 1 s).2.2 wd want (o ++ List.replicate m x) v) := by
  have HC := hid (hyNumbers_any s wd want 1 o vo g w h (by omega) hwd)
  have HLT := hid h.1.lt
  have HVO := hid (fun k e => (h.2.lt k e).2)
  obtain ⟨l, er, r, hn⟩ : ∃ l er r, Hyb.nmb wd 1 s = (l, er, r) := ⟨_, _, _, rfl⟩
  rw [hn] at HC hx1 ⊢
  simp only at HC hx1 ⊢
  have hmI : (m : Int) ≤ 64 := by omega
  have hm1I : (1 : Int) ≤ (m : Int) := by omega
  have HM := hid hm
  have HXL := hid hx
  by_cases he : er = 0
  · subst he
    obtain rfl := hx1 rfl
    clear hn hx1 hwd hm1 h hm hx
    go_enter Try.func84, Try.ntmps84
    go_wp2_with fail
    refine Calls.mono HC.out ?_
    rintro e w1 ⟨v, rfl, hown, hst, hbut⟩
    obtain ⟨A, cap, rfl, hrd, hA, _⟩ := Rd.owned hown
    obtain ⟨b, ob, rfl, hblt, hbc⟩ := hrd.num0 (by simp)
    have hbw : w.heap.size ≤ b := by
      rcases hown.2 with ⟨e1, _⟩ | ⟨b', c', cur, e1, hb', _⟩
      · cases e1
      · injection e1 with e1 _ _
        injection e1 with e1
        injection e1 with e1
        omega
    have HRD := hid hrd
    have HST := hid hst
    have HBT := hid hbut
    have HBW := hid hbw
    have HNE := hid (show vo.ownBlock ≠ some b from fun e1 => by have := HVO.out b e1; omega)
    clear hrd hst hbut hbw hblt hbc hown hA
    go_wp2
    go_loopw [16] (fun c wr => ∃ (k : Nat) (v : Value), k ≤ m ∧ c = .int .i64 k ∧ HyRd g wr r wd want (o ++ List.replicate k x) v ∧ Hid (v.ownBlock ≠ some b) ∧ Hid (Rd wr (some ⟨b, ob, none⟩) (u64s [x])) ∧ Hid (Below g w wr)) (fun c _ => m - (intOf c).toNat)
    case atStart => exact ⟨0, vo, Nat.zero_le _, rfl, by rw [List.replicate_zero, List.append_nil]; exact HST.out, HNE, HRD, hid (HBT.out.below (Nat.le_refl _) (Nat.le_of_lt HLT.out))⟩
    case round =>
      obtain ⟨k, v, hk, rfl, ⟨hB, hO⟩, HN, HR, HX⟩ := hrel
      have HO := hid hO
      have HB := hid hB
      have hc3 := hB.cell 3
      have hf3 := hB.frozen 3
      by_cases hlt : k < m
      · have hltI : (k : Int) < (m : Int) := by omega
        obtain ⟨_, _, e0, hblt, hbc⟩ := HR.out.num0 (by simp)
        cases e0
        have dx := hbc 0 x rfl
        rw [Nat.add_zero] at dx
        have hol : (o ++ List.replicate k x).length ≤ 64 := by rw [List.length_append, List.length_replicate]; have := HM.out; omega
        have HWL := hid hB.lt
        have HWB := hid hblt
        obtain ⟨q, hq⟩ : ∃ q, q = o ++ List.replicate k x := ⟨_, rfl⟩
        rw [← hq] at HO hol
        have HQ := hid (show o ++ List.replicate (k + 1) x = q ++ [x] by rw [hq, List.replicate_succ', List.append_assoc])
        have HQL := hid hol
        have HNG := hid (show v.ownBlock ≠ some g from fun e1 => by have := (HO.out.lt g e1).1; omega)
        obtain ⟨A2, c2, rfl, _⟩ := Rd.owned HO.out
        clear hB hO hbc hq hol hblt
        go_wp2_with fail
        have hc3r := cell_regrown hc3
        have dxr := cell_regrown dx
        refine wp_region_late [9, 12] [0, 10, 11] [(0, true), (1, true), (2, true), (3, true), (4, true), (5, true), (6, true), (7, true), (8, false), (9, false), (10, true), (11, true), (12, false)] (by kernel_rfl) (by kernel_rfl) (fun _ _ _ _ _ h => h) (by kernel_rfl) (by rfl) ?_
        simp only [List.filterMap_cons, List.filterMap_nil, List.getElem?_toArray, List.getElem?_cons_zero, List.getElem?_cons_succ, Option.map_some, List.contains_cons, List.contains_nil, Nat.reduceBEq, Bool.or_false, Bool.or_true]
        repeat ((first | refine wpL_val (by rfl) ?_ | refine wpL_pure (by rfl) ?_); intro K hK; go_big_quiet_op; go_big_quiet_on)
        refine wpL_do (by rfl) ?_
        intro K hK
        go_simp
        have X1 : Ext wr (wr.drew.alloc (.cells #[.int .u64 (x : Int)] 33)) := Ext.new (Ext.draw (ext_refl wr)) _
        refine hK _ _ X1 ?_
        clear K hK
        refine wpL_late (by rfl) ?_
        intro K hK
        refine wp_app (.tmp 22) (.tmp 26) rowU64 rfl _ q.length (u64s q) rfl (own_ext HO.out X1) _ 1 (u64s [x]) rfl (Src.rd Try.underlying22 _ 1 1 _ rfl (rd_lit rfl rfl) (u64s_one _) (fun h => by cases h)) (by have := HQL.out; unfold maxLen; omega) (by have := HQL.out; omega) (by have := HWL.out; simp; omega) ?_
        intro v3 w3 hown3 hgr3 hat3 hbel3
        refine hK _ _ ?_
        clear K hK
        obtain ⟨C3, c3, rfl, _⟩ := Rd.owned hown3
        have B3 := blk_grown (HB.out.keep X1) hgr3 HNG.out
        have hc33 := B3.cell 3
        have hf33 := B3.frozen 3
        have HB3 := hid B3
        have HO3 := hid hown3
        have HG3 := hid hgr3
        have HA3 := hid hat3
        have HL3 := hid hbel3
        clear hown3 hgr3 hat3 hbel3 B3 hc3 hf3 hc3r dxr dx
        simp only [Act.put, List.setIfInBounds_toArray, List.set_cons_succ, List.set_cons_zero]
        repeat (refine wpL_pure (by rfl) ?_; intro K hK; go_big_quiet_op; go_big_quiet_on)
        refine wpL_late (by rfl) ?_
        intro K hK
        go_simp
        refine hK _ _ ?_
        clear K hK
        refine wpL_nil ?_
        go_wp2
        go_roundw
        case rel =>
          refine ⟨k + 1, .slice C3 (q.length + 1) c3, by omega, by go_num, ⟨?_, ?_⟩, hid ?_, hid ?_, hid ?_⟩
          · exact (HB3.out.set 3 _).cast rfl
          · rw [HQ.out, List.length_append, u64s_app]
            exact own_but HO3.out (but_put _ _ _) (Nat.lt_succ_self _)
          · rcases HA3.out with e | e
            · rw [e]; exact HN.out
            · rw [e]; intro e2; injection e2 with e2; simp at e2; have := HWB.out; omega
          · exact rd_grown (rd_grown (HR.out.keep X1) HG3.out HN.out) (but_put _ _ _) (by intro e2; injection e2 with e2; have := HBW.out; have := HLT.out; simp only at e2; omega)
          · exact Below.setCell (Below.trans HX.out (Below.trans (X1.mono (by have := HWL.out; omega)) (HL3.out.mono (by omega)))) (Nat.le_refl _) _
        case measure => simp [intOf]; omega
      · obtain rfl : k = m := by omega
        clear hB hO
        go_wp2
        go_returns
        exact ⟨rfl, HX.out, fun _ => ⟨v, HB.out, HO.out⟩⟩
  · have h3 : ((er : Int) != 0) = true := by rw [bne_iff_ne]; omega
    have h4 : ((er : Int) == 0) = false := by rw [beq_eq_false_iff_ne]; omega
    have HE := hid he
    clear hn hx1 hwd hm1 h hm hx he
    go_enter Try.func84, Try.ntmps84
    go_wp2_with fail
    refine Calls.mono HC.out ?_
    rintro e w1 ⟨v, rfl, hown, hst, hbut⟩
    have HBT := hid hbut
    clear hown hst hbut
    go_wp2
    go_returns
    exact ⟨rfl, HBT.out.below (Nat.le_refl _) (Nat.le_of_lt HLT.out), fun h => absurd h HE.out⟩
end Go.Proofs.Ytdblegdbfdhepaa
