/- Front: the reader's text: walk. -/
import Derived.Test.YtgobnpogmghgkaaRows
import Derived.Test.YtgobnpogmghgkaaFra
import Derived.Test.YtgobnpogmghgkaaVrd
import Derived.Test.YtgobnpogmghgkaaGro
namespace Hy.Front
open Go Hy.Vary
/-- how far the reader has come in its two numbers -/
@[irreducible] def St (i : Nat) (s x : Tx) (n m : Nat) : Prop :=
  match i with
  | 0 => x = s ∧ n = 0 ∧ m = 0
  | 1 => ∃ k, rd s = (n, k, 0) ∧ x = s.drop k ∧ m = 0
  | _ => ∃ k j, rd s = (n, k, 0) ∧ rd (s.drop k) = (m, j, 0) ∧ x = (s.drop k).drop j
theorem st0 (s : Tx) : St 0 s s 0 0 := by unfold St; exact ⟨rfl, rfl, rfl⟩
theorem st0_inv {s x : Tx} {n m : Nat} (h : St 0 s x n m) : x = s ∧ n = 0 ∧ m = 0 := by unfold St at h; exact h
theorem st1 {s : Tx} {n k : Nat} (h : rd s = (n, k, 0)) : St 1 s (s.drop k) n 0 := by unfold St; exact ⟨k, h, rfl, rfl⟩
theorem st1_inv {s x : Tx} {n m : Nat} (h : St 1 s x n m) : ∃ k, rd s = (n, k, 0) ∧ x = s.drop k ∧ m = 0 := by unfold St at h; exact h
theorem st2 {s x : Tx} {n m k j : Nat} (h : rd s = (n, k, 0)) (hx : x = s.drop k) (h2 : rd x = (m, j, 0)) : St 2 s (x.drop j) n m := by subst hx; unfold St; exact ⟨k, j, h, h2, rfl⟩
theorem st2_inv {s x : Tx} {n m : Nat} (h : St 2 s x n m) : ∃ k j, rd s = (n, k, 0) ∧ rd (s.drop k) = (m, j, 0) ∧ x = (s.drop k).drop j := by unfold St at h; exact h
end Hy.Front
namespace Go.Proofs.Ytgobnpogmghgkaa
open Go.RowKit Hy
/-- the reader's end: what txt says; and the reader, where it is right -/
def TextOut (s last : List UInt8) (g : Nat) (t : TypeId) (w : World) (e : Ending) (w' : World) : Prop :=
  e = .returned (.tuple #[.string ⟨(Front.txt s last).1.toArray⟩, .int .i64 ((Front.txt s last).2.2 : Nat)]) ∧ But g w w' ∧
    ((Front.txt s last).2.2 = 0 → Blk w' g t #[.string ⟨(Front.txt s last).2.1.toArray⟩, .string ⟨(Front.txt s last).1.toArray⟩])
set_option maxHeartbeats 3200000 in
theorem text_any (s last : List UInt8) (g : Nat) (w : World) (hB : Blk w g 62 #[.string ⟨s.toArray⟩, .string ⟨last.toArray⟩]) (hs : s.length ≤ 281474976710656) (hl : last.length ≤ 16) :
    Calls Try.prog 40 #[.pointer (some ⟨g, 0, none⟩)] w (TextOut s last g 62 w) := by
  have HB := hid hB
  have hlt := hB.lt
  obtain ⟨LL, hLL⟩ : ∃ LL : ByteArray, LL = ⟨last.toArray⟩ := ⟨_, rfl⟩
  have hLs : LL.size = last.length := by rw [hLL, str_size]
  have HLL := hid hLL
  have HLs := hid hLs
  have HLd := hid (show LL.data.toList = last by rw [hLL])
  rw [← hLL] at HB
  clear hB hLL
  have hLI : (LL.size : Int) ≤ 16 := by omega
  go_enter Try.func40, Try.ntmps40
  go_wp2
  go_loopw [5, 6, 7, 8, 12] (fun _ _ _ _ c wr => ∃ (i : Nat) (x : List UInt8) (n m : Nat), i ≤ 2 ∧ c = .int .i64 i ∧ Hid (Front.St i s x n m) ∧ x.length ≤ 281474976710656 ∧ n < 18446744073709551616 ∧ m < 18446744073709551616 ∧ Blk wr g 62 #[.string ⟨x.toArray⟩, .string LL] ∧ Blk wr w.heap.size 74 #[.int .u64 n, .int .u64 m] ∧ But g w wr) (fun _ _ _ _ c _ => 2 - (intOf c).toNat)
  case atStart => exact ⟨0, s, 0, 0, by omega, rfl, hid (Front.st0 s), hs, by omega, by omega, HB.out.alloc _, Blk.new _ _ _, (but_refl g w).new _⟩
  case round =>
    obtain ⟨i, x, n, m, hi, rfl, HSt, hx, hn, hm, B, C, X⟩ := hrel
    have hgne : g ≠ w.heap.size := by omega
    obtain ⟨XX, hXX⟩ : ∃ XX : ByteArray, XX = ⟨x.toArray⟩ := ⟨_, rfl⟩
    have hXd : XX.data.toList = x := by rw [hXX]
    have hXs : XX.size = x.length := by rw [hXX, str_size]
    rw [← hXX] at B
    have HXX := hid hXX
    have HXd := hid hXd
    clear hXX hXd
    have hc0 := B.cell 0
    have hc1 := B.cell 1
    have hf0 := B.frozen 0
    have hf1 := B.frozen 1
    have k0 := C.cell 0
    have k1 := C.cell 1
    have z0 := C.frozen 0
    have z1 := C.frozen 1
    have HBB := hid B
    have HCC := hid C
    clear B C
    by_cases h0 : i = 0
    · subst h0
      obtain ⟨rfl, rfl, rfl⟩ := Front.st0_inv HSt.out
      obtain ⟨a, k2, e, hrd⟩ : ∃ a k2 e, Vary.rd x = (a, k2, e) := ⟨_, _, _, rfl⟩
      have CR : ∀ wx : World, Hid (Calls Try.prog 51 #[.string XX] wx fun e' w' => e' = .returned (.tuple #[.int .u64 a, .int .i64 k2, .int .i64 e]) ∧ Ext wx w') := fun wx => by
        have := read_any XX wx
        rw [HXd.out, hrd] at this
        exact hid this
      by_cases he : e = 0
      · subst he
        obtain ⟨r1, r2, r3, r4, _⟩ := Vary.rd_ok (s := x) (by rw [hrd])
        rw [hrd] at r1 r2 r3 r4
        simp only at r1 r2 r3 r4
        have hT := fun wx : World => run_from (P := Try.prog) (w := wx) Try.underlying9 XX .i64 k2 (by omega)
        rw [HXd.out] at hT
        have HST2 := hid (Front.st1 hrd)
        have haI : (a : Int) ≤ 18446744073709551615 := by omega
        have HA := hid r4
        have HX2 := hid (show (x.drop k2).length ≤ 281474976710656 by rw [List.length_drop]; omega)
        clear hrd r1 r2 r3 r4 HSt hs
        go_wp2_with (go_at_call 51; refine (CR _).out.mono ?_; rintro e w2 ⟨rfl, b2⟩; have B2 := hid (HBB.out.keep b2); have C2 := hid (HCC.out.keep b2); have X2 := hid (X.ext b2); have hc02 := B2.out.cell 0; have hf02 := B2.out.frozen 0; have k02 := C2.out.cell 0; have z02 := C2.out.frozen 0; clear b2 hc0 hc1 hf0 hf1 k0 k1 z0 z1)
        go_roundw
        case rel =>
          refine ⟨1, x.drop k2, a, 0, by omega, by go_num, HST2, HX2.out, HA.out, by omega, ?_, ?_, ?_⟩
          · exact ((B2.out.far (p := ⟨w.heap.size, 0, none⟩) hgne _).set 0 _).cast rfl
          · exact ((C2.out.set 0 _).cast rfl).far (p := ⟨g, 0, none⟩) (Ne.symm hgne) _
          · exact (X2.out.put ⟨w.heap.size, 0, none⟩ (.inr (Nat.le_refl _)) _).put ⟨g, 0, none⟩ (.inl rfl) _
        case measure => simp [intOf]
      · have h3 : ((e : Int) != 0) = true := by rw [bne_iff_ne]; omega
        have h4 : ((e : Int) == 0) = false := by rw [beq_eq_false_iff_ne]; omega
        have HTX := hid (Front.txt_1 (last := last) hrd he)
        have HE := hid he
        clear hrd he HSt
        go_wp2_with (go_at_call 51; refine (CR _).out.mono ?_; rintro e w2 ⟨rfl, b2⟩; have B2 := hid (HBB.out.keep b2); have C2 := hid (HCC.out.keep b2); have X2 := hid (X.ext b2); have hc02 := B2.out.cell 0; have hf02 := B2.out.frozen 0; clear b2 hc0 hc1 hf0 hf1 k0 k1 z0 z1)
        go_returns
        exact ⟨by rw [HTX.out]; rfl, X2.out, fun h => absurd h (by rw [HTX.out]; exact HE.out)⟩
    · by_cases h1 : i = 1
      · subst h1
        obtain ⟨k, hr1, hx1, rfl⟩ := Front.st1_inv HSt.out
        obtain ⟨a, k2, e, hrd⟩ : ∃ a k2 e, Vary.rd x = (a, k2, e) := ⟨_, _, _, rfl⟩
        have CR : ∀ wx : World, Hid (Calls Try.prog 51 #[.string XX] wx fun e' w' => e' = .returned (.tuple #[.int .u64 a, .int .i64 k2, .int .i64 e]) ∧ Ext wx w') := fun wx => by
          have := read_any XX wx
          rw [HXd.out, hrd] at this
          exact hid this
        by_cases he : e = 0
        · subst he
          obtain ⟨r1, r2, r3, r4, _⟩ := Vary.rd_ok (s := x) (by rw [hrd])
          rw [hrd] at r1 r2 r3 r4
          simp only at r1 r2 r3 r4
          have hT := fun wx : World => run_from (P := Try.prog) (w := wx) Try.underlying9 XX .i64 k2 (by omega)
          rw [HXd.out] at hT
          have HST2 := hid (Front.st2 hr1 hx1 hrd)
          have haI : (a : Int) ≤ 18446744073709551615 := by omega
          have HA := hid r4
          have HX2 := hid (show (x.drop k2).length ≤ 281474976710656 by rw [List.length_drop]; omega)
          clear hrd r1 r2 r3 r4 HSt hr1 hx1
          go_wp2_with (go_at_call 51; refine (CR _).out.mono ?_; rintro e w2 ⟨rfl, b2⟩; have B2 := hid (HBB.out.keep b2); have C2 := hid (HCC.out.keep b2); have X2 := hid (X.ext b2); have hc02 := B2.out.cell 0; have hf02 := B2.out.frozen 0; have k02 := C2.out.cell 1; have z02 := C2.out.frozen 1; clear b2 hc0 hc1 hf0 hf1 k0 k1 z0 z1)
          go_roundw
          case rel =>
            refine ⟨2, x.drop k2, n, a, by omega, by go_num, HST2, HX2.out, hn, HA.out, ?_, ?_, ?_⟩
            · exact ((B2.out.far (p := ⟨w.heap.size, 1, none⟩) hgne _).set 0 _).cast rfl
            · exact ((C2.out.set 1 _).cast rfl).far (p := ⟨g, 0, none⟩) (Ne.symm hgne) _
            · exact (X2.out.put ⟨w.heap.size, 1, none⟩ (.inr (Nat.le_refl _)) _).put ⟨g, 0, none⟩ (.inl rfl) _
          case measure => simp [intOf]
        · have h3 : ((e : Int) != 0) = true := by rw [bne_iff_ne]; omega
          have h4 : ((e : Int) == 0) = false := by rw [beq_eq_false_iff_ne]; omega
          have HTX := hid (Front.txt_2 (last := last) hr1 hx1 hrd he)
          have HE := hid he
          clear hrd he HSt
          go_wp2_with (go_at_call 51; refine (CR _).out.mono ?_; rintro e w2 ⟨rfl, b2⟩; have B2 := hid (HBB.out.keep b2); have C2 := hid (HCC.out.keep b2); have X2 := hid (X.ext b2); have hc02 := B2.out.cell 0; have hf02 := B2.out.frozen 0; clear b2 hc0 hc1 hf0 hf1 k0 k1 z0 z1)
          go_returns
          exact ⟨by rw [HTX.out]; rfl, X2.out, fun h => absurd h (by rw [HTX.out]; exact HE.out)⟩
      · obtain rfl : i = 2 := by omega
        obtain ⟨k, j, hr1, hr2, hx2⟩ := Front.st2_inv HSt.out
        have hXI : (XX.size : Int) ≤ 281474976710656 := by omega
        have hnI : (n : Int) ≤ 18446744073709551615 := by omega
        have hmI : (m : Int) ≤ 18446744073709551615 := by omega
        clear HSt
        by_cases g1 : last.length < n
        · have HTX := hid (Front.txt_3 (last := last) hr1 rfl hr2 g1)
          have g1I : (LL.size : Int) < (n : Int) := by omega
          clear hr1 hr2 hx2 g1 hx hn hm hs hl hLs hXs
          go_wp2_with fail
          go_quiet (fail)
          go_wp2
          go_returns
          exact ⟨by rw [HTX.out]; rfl, X.draws _, fun h => absurd h (by rw [HTX.out]; decide)⟩
        · have g1I : (n : Int) ≤ (LL.size : Int) := by omega
          have hn16 : (n : Int) ≤ 16 := by omega
          by_cases g2 : 16 - n < m
          · have HTX := hid (Front.txt_4 (last := last) hr1 rfl hr2 g1 g2)
            have g2I : (16 : Int) - (n : Int) < (m : Int) := by omega
            clear hr1 hr2 hx2 g1 g2 hx hn hm hs hl hLs hXs
            go_wp2_with fail
            go_quiet (fail)
            go_wp2
            go_returns
            exact ⟨by rw [HTX.out]; rfl, X.draws _, fun h => absurd h (by rw [HTX.out]; decide)⟩
          · have g2I : (m : Int) ≤ (16 : Int) - (n : Int) := by omega
            have hm16 : (m : Int) ≤ 16 := by omega
            by_cases g3 : x.length < m
            · have HTX := hid (Front.txt_5 (last := last) hr1 rfl hr2 g1 g2 rfl (by rw [← hx2]; exact g3))
              have g3I : (XX.size : Int) < (m : Int) := by omega
              clear hr1 hr2 hx2 g1 g2 g3 hx hn hm hs hl hLs hXs
              go_wp2_with fail
              go_quiet (fail)
              go_wp2
              go_returns
              exact ⟨by rw [HTX.out]; rfl, X.draws _, fun h => absurd h (by rw [HTX.out]; decide)⟩
            · have g3I : (m : Int) ≤ (XX.size : Int) := by omega
              have i1 := fun wx : World => run_to (P := Try.prog) (w := wx) Try.underlying9 LL .u64 n (by omega)
              have i2 := fun wx : World => run_to (P := Try.prog) (w := wx) Try.underlying9 XX .u64 m (by omega)
              have i3 := fun wx : World => run_from (P := Try.prog) (w := wx) Try.underlying9 XX .u64 m (by omega)
              rw [HLd.out] at i1
              rw [HXd.out] at i2 i3
              obtain ⟨LT, hLT⟩ : ∃ LT : ByteArray, LT = ⟨(last.take n).toArray⟩ := ⟨_, rfl⟩
              obtain ⟨XT, hXT⟩ : ∃ XT : ByteArray, XT = ⟨(x.take m).toArray⟩ := ⟨_, rfl⟩
              obtain ⟨XD, hXD⟩ : ∃ XD : ByteArray, XD = ⟨(x.drop m).toArray⟩ := ⟨_, rfl⟩
              rw [← hLT] at i1
              rw [← hXT] at i2
              rw [← hXD] at i3
              have hLTs : LT.size ≤ 16 := by rw [hLT, str_size, List.length_take]; omega
              have hXTs : XT.size ≤ 16 := by rw [hXT, str_size, List.length_take]; omega
              have HTT := hid (show LT ++ XT = ⟨(last.take n ++ x.take m).toArray⟩ by rw [hLT, hXT, str_app])
              have HXDD := hid hXD
              obtain ⟨z, hz⟩ : ∃ z, z = Front.shr last (last.take n ++ x.take m) := ⟨_, rfl⟩
              have CS : ∀ wx : World, Hid (Calls Try.prog 19 #[.string LL, .string (LT ++ XT)] wx fun e w' => e = .returned (.int .i64 z) ∧ Ext wx w') := fun wx => by
                have := shared_any LL (LT ++ XT) wx (by omega)
                rw [HLd.out, HTT.out, ← hz] at this
                rw [HTT.out]
                exact hid this
              by_cases g4 : z = n
              · have HTX := hid (Front.txt_7 (last := last) hr1 rfl hr2 g1 g2 rfl (by rw [← hx2]; exact g3) (by rw [← hx2, ← hz, g4]))
                rw [← hx2] at HTX
                subst g4
                clear hr1 hr2 hx2 g1 g2 g3 hx hn hm hs hl hLs hXs hz hLT hXT hXD
                go_wp2_with fail
                go_quiet (fail)
                go_wp2
                go_quiet (fail)
                go_wp2_with (go_at_call 19; refine (CS _).out.mono ?_; rintro e w2 ⟨rfl, b2⟩; have B2 := hid ((HBB.out.drewN _).keep b2); have X2 := hid ((X.draws _).ext b2); have hc02 := B2.out.cell 0; have hf02 := B2.out.frozen 0; have hc12 := B2.out.cell 1; have hf12 := B2.out.frozen 1; clear b2 hc0 hc1 hf0 hf1 k0 k1 z0 z1)
                go_returns
                refine ⟨by rw [HTX.out, ← HTT.out]; rfl, (X2.out.put ⟨g, 0, none⟩ (.inl rfl) _).put ⟨g, 1, none⟩ (.inl rfl) _, fun _ => ?_⟩
                rw [HTX.out, ← HTT.out, ← HXDD.out]
                exact ((B2.out.set 0 _).set 1 _).cast rfl
              · have HTX := hid (Front.txt_6 (last := last) hr1 rfl hr2 g1 g2 rfl (by rw [← hx2]; exact g3) (by rw [← hx2, ← hz]; exact g4))
                have h3 : ((z : Int) != (n : Int)) = true := by rw [bne_iff_ne]; omega
                have h4 : ((z : Int) == (n : Int)) = false := by rw [beq_eq_false_iff_ne]; omega
                clear hr1 hr2 hx2 g1 g2 g3 g4 hx hn hm hs hl hLs hXs hz hLT hXT hXD
                go_wp2_with fail
                go_quiet (fail)
                go_wp2
                go_quiet (fail)
                go_wp2_with (go_at_call 19; refine (CS _).out.mono ?_; rintro e w2 ⟨rfl, b2⟩; have X2 := hid ((X.draws _).ext b2); clear b2 hc0 hc1 hf0 hf1 k0 k1 z0 z1)
                go_returns
                exact ⟨by rw [HTX.out]; rfl, X2.out, fun h => absurd h (by rw [HTX.out]; decide)⟩
end Go.Proofs.Ytgobnpogmghgkaa
