/- Texts of this claim, put together: walks and plain laws. -/
import Derived.Test.YtdmmodeplfmpnaaGreatZC1
import Derived.Test.YtdmmodeplfmpnaaGreatZC2
section
namespace Hy.Cod
open Go
def fnd (f : Nat → Tx) (s : Tx) (a : Nat) : Nat → Bool
  | 0 => false
  | k + 1 => fnd f s a k || decide (tg f (a + k) = s)
theorem fnd_succ (f : Nat → Tx) (s : Tx) (a k : Nat) : fnd f s a (k + 1) = (fnd f s a k || decide (tg f (a + k) = s)) := rfl
theorem fnd_of (f : Nat → Tx) (s : Tx) (a k j : Nat) (hj : j < k) (h : tg f (a + j) = s) : fnd f s a k = true := by
  induction k with
  | zero => omega
  | succ k ih =>
    rw [fnd_succ]
    rcases Nat.lt_or_ge j k with h2 | h2
    · rw [ih h2]; rfl
    · rw [show k = j by omega, h]; simp
theorem fnd_up (f : Nat → Tx) (a k : Nat) : fnd f (up f a k) a (k + 1) = true := by
  obtain ⟨j, hj, e⟩ := up_one f a k
  exact fnd_of f _ a (k + 1) j (by omega) e.symm
theorem bk_rev (l : List Tx) : Dct.bk l.reverse = Dct.bk l := by
  obtain ⟨h1, h2⟩ := Dct.bk_spec l
  exact bk_of _ _ ((Dct.asc_iff _).2 h1) fun x => by rw [List.mem_reverse, h2]
theorem bok_rev (l : List Tx) : (bok l.reverse).length = (bok l).length := by
  rw [bok_eq, bok_eq, bk_rev]
  simp only [List.length_append, Bits.packed_len, Dct.cds_len, List.length_reverse]
theorem mny_rev (l : List Tx) : Dct.mny l.reverse = Dct.mny l := by unfold Dct.mny; rw [List.length_reverse, List.any_reverse]
end Hy.Cod
namespace Go.Proofs.YtdmmodeplfmpnaaGreat
open Go.RowKit Hy
theorem _root_.Hy.Cod.str_beq (a b : List UInt8) : ((⟨a.toArray⟩ : ByteArray).toList == (⟨b.toArray⟩ : ByteArray).toList) = decide (a = b) := by
  rw [ByteArray.toList_mk, ByteArray.toList_mk]
  by_cases h : a = b
  · subst h; simp
  · rw [decide_eq_false h, beq_eq_false_iff_ne]; exact h
set_option maxRecDepth 100000 in
set_option maxHeartbeats 3200000 in
theorem least_11 (l : List Nat) (t : List (List UInt8)) (A B : Option Addr) (n m cap cb : Nat) (w : World) (hn : l.length = n) (hr : Rd w A (u64s l)) (hcap : n ≤ cap) (hl : ∀ x ∈ l, x < 18446744073709551616) (hnl : n ≤ 1000000000000000) (hm : t.length = m) (hq : Rd w B (txs t)) (hml : m ≤ 100000000000000) (h64 : ¬ 64 < n) (hmy : Dct.mny t = false) :
    Calls Tryz.prog 9 #[.slice A n cap, .slice B m cb] w fun e w' => e = .returned (.bool true) ∧ Ext w w' := by
  have HB := hid (fun wx => codecBegun_any wx)
  have H1 := hid (fun wx (hx : Ext w wx) => bestNumbers_any l A n cap wx hn (hr.keep hx) hcap hl (by omega))
  have H2 := hid (fun wx (hx : Ext w wx) => bestTexts_any t B m cb wx hm (hq.keep hx) (by omega))
  have D1 := fun (way : Int) wx (hx : Ext w wx) => cNumbers_any l A n cap way wx hn (hr.keep hx) hcap hl (by omega)
  have D2 := fun (way : Int) wx (hx : Ext w wx) => cTexts_any t B m cb way wx hm (hq.keep hx) (by omega)
  unfold Cod.bnm at H1
  unfold Cod.btx at H2
  rw [hn] at H1
  rw [if_neg h64] at H1
  rw [hmy] at H2
  simp only [Bool.false_eq_true, if_false] at H2
  have C1 := hid (fun (k : Nat) (h1 : 1 ≤ k) (h2 : k ≤ 4) wx (hx : Ext w wx) => show Calls Tryz.prog 12 #[.slice A n cap, .int .i64 k] wx fun e w' => e = .returned (.tuple #[.string ⟨(Cod.tg (Cod.nm l) k).toArray⟩, .int .i64 0]) ∧ Ext wx w' from by
    have h := D1 k wx hx
    unfold Cod.nmb at h
    rw [if_neg (fun x => x ⟨by omega, by omega⟩), if_neg (by omega), Int.toNat_natCast] at h
    exact h)
  have HL1 := hid (fun j (hj : j ≤ 3) => Cod.up_least (Cod.nm l) 1 3 j hj)
  have HF1 := hid (Cod.fnd_up (Cod.nm l) 1 3)
  generalize Cod.nm l = f1 at *
  obtain ⟨U1, hU1⟩ : ∃ U, U = Cod.up f1 1 3 := ⟨_, rfl⟩
  rw [← hU1] at H1 HL1 HF1
  obtain ⟨S1, hS1⟩ : ∃ S : ByteArray, S = ⟨U1.toArray⟩ := ⟨_, rfl⟩
  rw [← hS1] at H1
  have HS1 := hid hS1
  have HZ1 := hid (show S1.size = U1.length by rw [hS1, str_size])
  clear hU1 hS1
  have C2 := hid (fun (k : Nat) (h1 : 5 ≤ k) (h2 : k ≤ 7) wx (hx : Ext w wx) => show Calls Tryz.prog 27 #[.slice B m cb, .int .i64 k] wx fun e w' => e = .returned (.tuple #[.string ⟨(Cod.tg (Cod.tx t) k).toArray⟩, .int .i64 0]) ∧ Ext wx w' from by
    have h := D2 k wx hx
    unfold Cod.txb at h
    rw [if_neg (fun x => x ⟨by omega, by omega⟩), hmy, if_neg (by decide), Int.toNat_natCast] at h
    exact h)
  have HL2 := hid (fun j (hj : j ≤ 2) => Cod.up_least (Cod.tx t) 5 2 j hj)
  have HF2 := hid (Cod.fnd_up (Cod.tx t) 5 2)
  generalize Cod.tx t = f2 at *
  obtain ⟨U2, hU2⟩ : ∃ U, U = Cod.up f2 5 2 := ⟨_, rfl⟩
  rw [← hU2] at H2 HL2 HF2
  obtain ⟨S2, hS2⟩ : ∃ S : ByteArray, S = ⟨U2.toArray⟩ := ⟨_, rfl⟩
  rw [← hS2] at H2
  have HS2 := hid hS2
  have HZ2 := hid (show S2.size = U2.length by rw [hS2, str_size])
  clear hU2 hS2
  clear D1 D2 hn hr hcap hl hnl hm hq hml h64 hmy
  go_enter Tryz.func9, Tryz.ntmps9
  go_wp2_with fail
  refine Calls.mono (HB.out _) ?_
  rintro e w1 ⟨rfl, hx⟩
  have Xp := hid hx
  clear hx 
  go_wp2_with fail
  refine Calls.mono (H1.out _ Xp.out) ?_
  rintro e w2 ⟨rfl, hx⟩
  replace Xp := hid (Xp.out.then hx)
  clear hx 
  go_wp2_with fail
  refine Calls.mono (H2.out _ Xp.out) ?_
  rintro e w3 ⟨rfl, hx⟩
  replace Xp := hid (Xp.out.then hx)
  clear hx 
  go_wp2
  go_loopw [9, 10, 11, 12] (fun b c _ _ wr => ∃ j : Nat, j ≤ 4 ∧ c = .int .i64 ((j : Int) + 1) ∧ b = .bool (Cod.fnd f1 U1 1 j) ∧ Hid (Ext w wr)) (fun _ c _ _ _ => 4 + 1 - (intOf c).toNat)
  case atStart => exact ⟨0, Nat.zero_le _, rfl, rfl, Xp⟩
  case round =>
    obtain ⟨j, hj, rfl, rfl, HX⟩ := hrel
    by_cases hlt : j < 4
    · have hjI : (j : Int) + 1 ≤ 4 := by omega
      have HJ := hid (show j + 1 ≤ 4 by omega)
      have CC := hid (C1.out (1 + j) (by omega) (by omega))
      rw [show ((1 + j : Nat) : Int) = (j : Int) + 1 by omega] at CC
      have hle := HL1.out j (by omega)
      have FS := hid (Cod.fnd_succ f1 U1 1 j)
      obtain ⟨G, hG⟩ : ∃ S : ByteArray, S = ⟨(Cod.tg f1 (1 + j)).toArray⟩ := ⟨_, rfl⟩
      rw [← hG] at CC
      have hGs : G.size = (Cod.tg f1 (1 + j)).length := by rw [hG, str_size]
      have hGI : ¬ (G.size : Int) < (S1.size : Int) := by have := HZ1.out; omega
      have HGE := hid (show (G.toList == S1.toList) = decide (Cod.tg f1 (1 + j) = U1) by rw [hG, HS1.out]; exact Cod.str_beq _ _)
      generalize decide (Cod.tg f1 (1 + j) = U1) = bq at *
      clear hG hGs hle hj hlt
      generalize Cod.fnd f1 U1 1 j = bf at *
      cases bf
      · go_wp2_with fail
        refine Calls.mono (CC.out _ HX.out) ?_
        rintro e w5 ⟨rfl, hx⟩
        have HX5 := hid (HX.out.then hx)
        clear hx
        go_wp2
        go_roundw
        case rel => exact ⟨j + 1, HJ.out, by go_num, by rw [FS.out, ← HGE.out]; rfl, HX5⟩
        case measure => simp [intOf]; have := HJ.out; omega
      · go_wp2_with fail
        refine Calls.mono (CC.out _ HX.out) ?_
        rintro e w5 ⟨rfl, hx⟩
        have HX5 := hid (HX.out.then hx)
        clear hx
        go_wp2
        go_roundw
        case rel => exact ⟨j + 1, HJ.out, by go_num, by rw [FS.out]; rfl, HX5⟩
        case measure => simp [intOf]; have := HJ.out; omega
    · obtain rfl : j = 4 := by omega
      rw [show ((4 : Nat) : Int) + 1 = 5 from rfl]
      rw [HF1.out]
      clear hlt hj
      replace Xp := HX
      clear HX
      go_wp2
      go_loopw [13, 14, 15, 16] (fun b c _ _ wr => ∃ j : Nat, j ≤ 3 ∧ c = .int .i64 ((j : Int) + 5) ∧ b = .bool (Cod.fnd f2 U2 5 j) ∧ Hid (Ext w wr)) (fun _ c _ _ _ => 7 + 1 - (intOf c).toNat)
      case atStart => exact ⟨0, Nat.zero_le _, rfl, rfl, Xp⟩
      case round =>
        obtain ⟨j, hj, rfl, rfl, HX⟩ := hrel
        by_cases hlt : j < 3
        · have hjI : (j : Int) + 5 ≤ 7 := by omega
          have HJ := hid (show j + 1 ≤ 3 by omega)
          have CC := hid (C2.out (5 + j) (by omega) (by omega))
          rw [show ((5 + j : Nat) : Int) = (j : Int) + 5 by omega] at CC
          have hle := HL2.out j (by omega)
          have FS := hid (Cod.fnd_succ f2 U2 5 j)
          obtain ⟨G, hG⟩ : ∃ S : ByteArray, S = ⟨(Cod.tg f2 (5 + j)).toArray⟩ := ⟨_, rfl⟩
          rw [← hG] at CC
          have hGs : G.size = (Cod.tg f2 (5 + j)).length := by rw [hG, str_size]
          have hGI : ¬ (G.size : Int) < (S2.size : Int) := by have := HZ2.out; omega
          have HGE := hid (show (G.toList == S2.toList) = decide (Cod.tg f2 (5 + j) = U2) by rw [hG, HS2.out]; exact Cod.str_beq _ _)
          generalize decide (Cod.tg f2 (5 + j) = U2) = bq at *
          clear hG hGs hle hj hlt
          generalize Cod.fnd f2 U2 5 j = bf at *
          cases bf
          · go_wp2_with fail
            refine Calls.mono (CC.out _ HX.out) ?_
            rintro e w5 ⟨rfl, hx⟩
            have HX5 := hid (HX.out.then hx)
            clear hx
            go_wp2
            go_roundw
            case rel => exact ⟨j + 1, HJ.out, by go_num, by rw [FS.out, ← HGE.out]; rfl, HX5⟩
            case measure => simp [intOf]; have := HJ.out; omega
          · go_wp2_with fail
            refine Calls.mono (CC.out _ HX.out) ?_
            rintro e w5 ⟨rfl, hx⟩
            have HX5 := hid (HX.out.then hx)
            clear hx
            go_wp2
            go_roundw
            case rel => exact ⟨j + 1, HJ.out, by go_num, by rw [FS.out]; rfl, HX5⟩
            case measure => simp [intOf]; have := HJ.out; omega
        · obtain rfl : j = 3 := by omega
          rw [show ((3 : Nat) : Int) + 5 = 8 from rfl]
          rw [HF2.out]
          clear hlt hj
          replace Xp := HX
          clear HX
          go_wp2
          go_returns
          exact ⟨rfl, Xp.out⟩
set_option maxRecDepth 100000 in
set_option maxHeartbeats 3200000 in
theorem least_10 (l : List Nat) (t : List (List UInt8)) (A B : Option Addr) (n m cap cb : Nat) (w : World) (hn : l.length = n) (hr : Rd w A (u64s l)) (hcap : n ≤ cap) (hl : ∀ x ∈ l, x < 18446744073709551616) (hnl : n ≤ 1000000000000000) (hm : t.length = m) (hq : Rd w B (txs t)) (hml : m ≤ 100000000000000) (h64 : ¬ 64 < n) (hmy : Dct.mny t = true) :
    Calls Tryz.prog 9 #[.slice A n cap, .slice B m cb] w fun e w' => e = .returned (.bool true) ∧ Ext w w' := by
  have HB := hid (fun wx => codecBegun_any wx)
  have H1 := hid (fun wx (hx : Ext w wx) => bestNumbers_any l A n cap wx hn (hr.keep hx) hcap hl (by omega))
  have H2 := hid (fun wx (hx : Ext w wx) => bestTexts_any t B m cb wx hm (hq.keep hx) (by omega))
  have D1 := fun (way : Int) wx (hx : Ext w wx) => cNumbers_any l A n cap way wx hn (hr.keep hx) hcap hl (by omega)
  have D2 := fun (way : Int) wx (hx : Ext w wx) => cTexts_any t B m cb way wx hm (hq.keep hx) (by omega)
  unfold Cod.bnm at H1
  unfold Cod.btx at H2
  rw [hn] at H1
  rw [if_neg h64] at H1
  rw [hmy] at H2
  simp only [if_true] at H2
  have C1 := hid (fun (k : Nat) (h1 : 1 ≤ k) (h2 : k ≤ 4) wx (hx : Ext w wx) => show Calls Tryz.prog 12 #[.slice A n cap, .int .i64 k] wx fun e w' => e = .returned (.tuple #[.string ⟨(Cod.tg (Cod.nm l) k).toArray⟩, .int .i64 0]) ∧ Ext wx w' from by
    have h := D1 k wx hx
    unfold Cod.nmb at h
    rw [if_neg (fun x => x ⟨by omega, by omega⟩), if_neg (by omega), Int.toNat_natCast] at h
    exact h)
  have HL1 := hid (fun j (hj : j ≤ 3) => Cod.up_least (Cod.nm l) 1 3 j hj)
  have HF1 := hid (Cod.fnd_up (Cod.nm l) 1 3)
  generalize Cod.nm l = f1 at *
  obtain ⟨U1, hU1⟩ : ∃ U, U = Cod.up f1 1 3 := ⟨_, rfl⟩
  rw [← hU1] at H1 HL1 HF1
  obtain ⟨S1, hS1⟩ : ∃ S : ByteArray, S = ⟨U1.toArray⟩ := ⟨_, rfl⟩
  rw [← hS1] at H1
  have HS1 := hid hS1
  have HZ1 := hid (show S1.size = U1.length by rw [hS1, str_size])
  clear hU1 hS1
  have C2 := hid (fun (k : Int) (h1 : 5 ≤ k) (h2 : k ≤ 7) wx (hx : Ext w wx) => show Calls Tryz.prog 27 #[.slice B m cb, .int .i64 k] wx fun e w' => e = .returned (.tuple #[.string ⟨#[]⟩, .int .i64 2]) ∧ Ext wx w' from by
    have h := D2 k wx hx
    unfold Cod.txb at h
    rw [if_neg (fun x => x ⟨by omega, by omega⟩), hmy, if_pos rfl] at h
    exact h)
  clear D1 D2 hn hr hcap hl hnl hm hq hml h64 hmy
  go_enter Tryz.func9, Tryz.ntmps9
  go_wp2_with fail
  refine Calls.mono (HB.out _) ?_
  rintro e w1 ⟨rfl, hx⟩
  have Xp := hid hx
  clear hx 
  go_wp2_with fail
  refine Calls.mono (H1.out _ Xp.out) ?_
  rintro e w2 ⟨rfl, hx⟩
  replace Xp := hid (Xp.out.then hx)
  clear hx 
  go_wp2_with fail
  refine Calls.mono (H2.out _ Xp.out) ?_
  rintro e w3 ⟨rfl, hx⟩
  replace Xp := hid (Xp.out.then hx)
  clear hx 
  go_wp2
  go_loopw [9, 10, 11, 12] (fun b c _ _ wr => ∃ j : Nat, j ≤ 4 ∧ c = .int .i64 ((j : Int) + 1) ∧ b = .bool (Cod.fnd f1 U1 1 j) ∧ Hid (Ext w wr)) (fun _ c _ _ _ => 4 + 1 - (intOf c).toNat)
  case atStart => exact ⟨0, Nat.zero_le _, rfl, rfl, Xp⟩
  case round =>
    obtain ⟨j, hj, rfl, rfl, HX⟩ := hrel
    by_cases hlt : j < 4
    · have hjI : (j : Int) + 1 ≤ 4 := by omega
      have HJ := hid (show j + 1 ≤ 4 by omega)
      have CC := hid (C1.out (1 + j) (by omega) (by omega))
      rw [show ((1 + j : Nat) : Int) = (j : Int) + 1 by omega] at CC
      have hle := HL1.out j (by omega)
      have FS := hid (Cod.fnd_succ f1 U1 1 j)
      obtain ⟨G, hG⟩ : ∃ S : ByteArray, S = ⟨(Cod.tg f1 (1 + j)).toArray⟩ := ⟨_, rfl⟩
      rw [← hG] at CC
      have hGs : G.size = (Cod.tg f1 (1 + j)).length := by rw [hG, str_size]
      have hGI : ¬ (G.size : Int) < (S1.size : Int) := by have := HZ1.out; omega
      have HGE := hid (show (G.toList == S1.toList) = decide (Cod.tg f1 (1 + j) = U1) by rw [hG, HS1.out]; exact Cod.str_beq _ _)
      generalize decide (Cod.tg f1 (1 + j) = U1) = bq at *
      clear hG hGs hle hj hlt
      generalize Cod.fnd f1 U1 1 j = bf at *
      cases bf
      · go_wp2_with fail
        refine Calls.mono (CC.out _ HX.out) ?_
        rintro e w5 ⟨rfl, hx⟩
        have HX5 := hid (HX.out.then hx)
        clear hx
        go_wp2
        go_roundw
        case rel => exact ⟨j + 1, HJ.out, by go_num, by rw [FS.out, ← HGE.out]; rfl, HX5⟩
        case measure => simp [intOf]; have := HJ.out; omega
      · go_wp2_with fail
        refine Calls.mono (CC.out _ HX.out) ?_
        rintro e w5 ⟨rfl, hx⟩
        have HX5 := hid (HX.out.then hx)
        clear hx
        go_wp2
        go_roundw
        case rel => exact ⟨j + 1, HJ.out, by go_num, by rw [FS.out]; rfl, HX5⟩
        case measure => simp [intOf]; have := HJ.out; omega
    · obtain rfl : j = 4 := by omega
      rw [show ((4 : Nat) : Int) + 1 = 5 from rfl]
      rw [HF1.out]
      clear hlt hj
      replace Xp := HX
      clear HX
      go_wp2
      go_loopw [13, 14, 15, 16] (fun b c _ _ wr => ∃ j : Nat, j ≤ 3 ∧ c = .int .i64 ((j : Int) + 5) ∧ b = .bool true ∧ Hid (Ext w wr)) (fun _ c _ _ _ => 7 + 1 - (intOf c).toNat)
      case atStart => exact ⟨0, Nat.zero_le _, rfl, rfl, Xp⟩
      case round =>
        obtain ⟨j, hj, rfl, rfl, HX⟩ := hrel
        by_cases hlt : j < 3
        · have hjI : (j : Int) + 5 ≤ 7 := by omega
          have HJ := hid (show j + 1 ≤ 3 by omega)
          have CC := hid (C2.out ((j : Int) + 5) (by omega) (by omega))
          clear hj hlt
          go_wp2_with fail
          refine Calls.mono (CC.out _ HX.out) ?_
          rintro e w5 ⟨rfl, hx⟩
          have HX5 := hid (HX.out.then hx)
          clear hx
          go_wp2
          go_roundw
          case rel => exact ⟨j + 1, HJ.out, by go_num, rfl, HX5⟩
          case measure => simp [intOf]; have := HJ.out; omega
        · obtain rfl : j = 3 := by omega
          rw [show ((3 : Nat) : Int) + 5 = 8 from rfl]
          clear hlt hj
          replace Xp := HX
          clear HX
          go_wp2
          go_returns
          exact ⟨rfl, Xp.out⟩
set_option maxRecDepth 100000 in
set_option maxHeartbeats 3200000 in
theorem least_01 (l : List Nat) (t : List (List UInt8)) (A B : Option Addr) (n m cap cb : Nat) (w : World) (hn : l.length = n) (hr : Rd w A (u64s l)) (hcap : n ≤ cap) (hl : ∀ x ∈ l, x < 18446744073709551616) (hnl : n ≤ 1000000000000000) (hm : t.length = m) (hq : Rd w B (txs t)) (hml : m ≤ 100000000000000) (h64 : 64 < n) (hmy : Dct.mny t = false) :
    Calls Tryz.prog 9 #[.slice A n cap, .slice B m cb] w fun e w' => e = .returned (.bool true) ∧ Ext w w' := by
  have HB := hid (fun wx => codecBegun_any wx)
  have H1 := hid (fun wx (hx : Ext w wx) => bestNumbers_any l A n cap wx hn (hr.keep hx) hcap hl (by omega))
  have H2 := hid (fun wx (hx : Ext w wx) => bestTexts_any t B m cb wx hm (hq.keep hx) (by omega))
  have D1 := fun (way : Int) wx (hx : Ext w wx) => cNumbers_any l A n cap way wx hn (hr.keep hx) hcap hl (by omega)
  have D2 := fun (way : Int) wx (hx : Ext w wx) => cTexts_any t B m cb way wx hm (hq.keep hx) (by omega)
  unfold Cod.bnm at H1
  unfold Cod.btx at H2
  rw [hn] at H1
  rw [if_pos h64] at H1
  rw [hmy] at H2
  simp only [Bool.false_eq_true, if_false] at H2
  have C1 := hid (fun (k : Int) (h1 : 1 ≤ k) (h2 : k ≤ 4) wx (hx : Ext w wx) => show Calls Tryz.prog 12 #[.slice A n cap, .int .i64 k] wx fun e w' => e = .returned (.tuple #[.string ⟨#[]⟩, .int .i64 2]) ∧ Ext wx w' from by
    have h := D1 k wx hx
    unfold Cod.nmb at h
    rw [if_neg (fun x => x ⟨by omega, by omega⟩), if_pos (by omega)] at h
    exact h)
  have C2 := hid (fun (k : Nat) (h1 : 5 ≤ k) (h2 : k ≤ 7) wx (hx : Ext w wx) => show Calls Tryz.prog 27 #[.slice B m cb, .int .i64 k] wx fun e w' => e = .returned (.tuple #[.string ⟨(Cod.tg (Cod.tx t) k).toArray⟩, .int .i64 0]) ∧ Ext wx w' from by
    have h := D2 k wx hx
    unfold Cod.txb at h
    rw [if_neg (fun x => x ⟨by omega, by omega⟩), hmy, if_neg (by decide), Int.toNat_natCast] at h
    exact h)
  have HL2 := hid (fun j (hj : j ≤ 2) => Cod.up_least (Cod.tx t) 5 2 j hj)
  have HF2 := hid (Cod.fnd_up (Cod.tx t) 5 2)
  generalize Cod.tx t = f2 at *
  obtain ⟨U2, hU2⟩ : ∃ U, U = Cod.up f2 5 2 := ⟨_, rfl⟩
  rw [← hU2] at H2 HL2 HF2
  obtain ⟨S2, hS2⟩ : ∃ S : ByteArray, S = ⟨U2.toArray⟩ := ⟨_, rfl⟩
  rw [← hS2] at H2
  have HS2 := hid hS2
  have HZ2 := hid (show S2.size = U2.length by rw [hS2, str_size])
  clear hU2 hS2
  clear D1 D2 hn hr hcap hl hnl hm hq hml h64 hmy
  go_enter Tryz.func9, Tryz.ntmps9
  go_wp2_with fail
  refine Calls.mono (HB.out _) ?_
  rintro e w1 ⟨rfl, hx⟩
  have Xp := hid hx
  clear hx 
  go_wp2_with fail
  refine Calls.mono (H1.out _ Xp.out) ?_
  rintro e w2 ⟨rfl, hx⟩
  replace Xp := hid (Xp.out.then hx)
  clear hx 
  go_wp2_with fail
  refine Calls.mono (H2.out _ Xp.out) ?_
  rintro e w3 ⟨rfl, hx⟩
  replace Xp := hid (Xp.out.then hx)
  clear hx 
  go_wp2
  go_loopw [9, 10, 11, 12] (fun b c _ _ wr => ∃ j : Nat, j ≤ 4 ∧ c = .int .i64 ((j : Int) + 1) ∧ b = .bool true ∧ Hid (Ext w wr)) (fun _ c _ _ _ => 4 + 1 - (intOf c).toNat)
  case atStart => exact ⟨0, Nat.zero_le _, rfl, rfl, Xp⟩
  case round =>
    obtain ⟨j, hj, rfl, rfl, HX⟩ := hrel
    by_cases hlt : j < 4
    · have hjI : (j : Int) + 1 ≤ 4 := by omega
      have HJ := hid (show j + 1 ≤ 4 by omega)
      have CC := hid (C1.out ((j : Int) + 1) (by omega) (by omega))
      clear hj hlt
      go_wp2_with fail
      refine Calls.mono (CC.out _ HX.out) ?_
      rintro e w5 ⟨rfl, hx⟩
      have HX5 := hid (HX.out.then hx)
      clear hx
      go_wp2
      go_roundw
      case rel => exact ⟨j + 1, HJ.out, by go_num, rfl, HX5⟩
      case measure => simp [intOf]; have := HJ.out; omega
    · obtain rfl : j = 4 := by omega
      rw [show ((4 : Nat) : Int) + 1 = 5 from rfl]
      clear hlt hj
      replace Xp := HX
      clear HX
      go_wp2
      go_loopw [13, 14, 15, 16] (fun b c _ _ wr => ∃ j : Nat, j ≤ 3 ∧ c = .int .i64 ((j : Int) + 5) ∧ b = .bool (Cod.fnd f2 U2 5 j) ∧ Hid (Ext w wr)) (fun _ c _ _ _ => 7 + 1 - (intOf c).toNat)
      case atStart => exact ⟨0, Nat.zero_le _, rfl, rfl, Xp⟩
      case round =>
        obtain ⟨j, hj, rfl, rfl, HX⟩ := hrel
        by_cases hlt : j < 3
        · have hjI : (j : Int) + 5 ≤ 7 := by omega
          have HJ := hid (show j + 1 ≤ 3 by omega)
          have CC := hid (C2.out (5 + j) (by omega) (by omega))
          rw [show ((5 + j : Nat) : Int) = (j : Int) + 5 by omega] at CC
          have hle := HL2.out j (by omega)
          have FS := hid (Cod.fnd_succ f2 U2 5 j)
          obtain ⟨G, hG⟩ : ∃ S : ByteArray, S = ⟨(Cod.tg f2 (5 + j)).toArray⟩ := ⟨_, rfl⟩
          rw [← hG] at CC
          have hGs : G.size = (Cod.tg f2 (5 + j)).length := by rw [hG, str_size]
          have hGI : ¬ (G.size : Int) < (S2.size : Int) := by have := HZ2.out; omega
          have HGE := hid (show (G.toList == S2.toList) = decide (Cod.tg f2 (5 + j) = U2) by rw [hG, HS2.out]; exact Cod.str_beq _ _)
          generalize decide (Cod.tg f2 (5 + j) = U2) = bq at *
          clear hG hGs hle hj hlt
          generalize Cod.fnd f2 U2 5 j = bf at *
          cases bf
          · go_wp2_with fail
            refine Calls.mono (CC.out _ HX.out) ?_
            rintro e w5 ⟨rfl, hx⟩
            have HX5 := hid (HX.out.then hx)
            clear hx
            go_wp2
            go_roundw
            case rel => exact ⟨j + 1, HJ.out, by go_num, by rw [FS.out, ← HGE.out]; rfl, HX5⟩
            case measure => simp [intOf]; have := HJ.out; omega
          · go_wp2_with fail
            refine Calls.mono (CC.out _ HX.out) ?_
            rintro e w5 ⟨rfl, hx⟩
            have HX5 := hid (HX.out.then hx)
            clear hx
            go_wp2
            go_roundw
            case rel => exact ⟨j + 1, HJ.out, by go_num, by rw [FS.out]; rfl, HX5⟩
            case measure => simp [intOf]; have := HJ.out; omega
        · obtain rfl : j = 3 := by omega
          rw [show ((3 : Nat) : Int) + 5 = 8 from rfl]
          rw [HF2.out]
          clear hlt hj
          replace Xp := HX
          clear HX
          go_wp2
          go_returns
          exact ⟨rfl, Xp.out⟩
set_option maxRecDepth 100000 in
set_option maxHeartbeats 3200000 in
theorem least_00 (l : List Nat) (t : List (List UInt8)) (A B : Option Addr) (n m cap cb : Nat) (w : World) (hn : l.length = n) (hr : Rd w A (u64s l)) (hcap : n ≤ cap) (hl : ∀ x ∈ l, x < 18446744073709551616) (hnl : n ≤ 1000000000000000) (hm : t.length = m) (hq : Rd w B (txs t)) (hml : m ≤ 100000000000000) (h64 : 64 < n) (hmy : Dct.mny t = true) :
    Calls Tryz.prog 9 #[.slice A n cap, .slice B m cb] w fun e w' => e = .returned (.bool true) ∧ Ext w w' := by
  have HB := hid (fun wx => codecBegun_any wx)
  have H1 := hid (fun wx (hx : Ext w wx) => bestNumbers_any l A n cap wx hn (hr.keep hx) hcap hl (by omega))
  have H2 := hid (fun wx (hx : Ext w wx) => bestTexts_any t B m cb wx hm (hq.keep hx) (by omega))
  have D1 := fun (way : Int) wx (hx : Ext w wx) => cNumbers_any l A n cap way wx hn (hr.keep hx) hcap hl (by omega)
  have D2 := fun (way : Int) wx (hx : Ext w wx) => cTexts_any t B m cb way wx hm (hq.keep hx) (by omega)
  unfold Cod.bnm at H1
  unfold Cod.btx at H2
  rw [hn] at H1
  rw [if_pos h64] at H1
  rw [hmy] at H2
  simp only [if_true] at H2
  have C1 := hid (fun (k : Int) (h1 : 1 ≤ k) (h2 : k ≤ 4) wx (hx : Ext w wx) => show Calls Tryz.prog 12 #[.slice A n cap, .int .i64 k] wx fun e w' => e = .returned (.tuple #[.string ⟨#[]⟩, .int .i64 2]) ∧ Ext wx w' from by
    have h := D1 k wx hx
    unfold Cod.nmb at h
    rw [if_neg (fun x => x ⟨by omega, by omega⟩), if_pos (by omega)] at h
    exact h)
  have C2 := hid (fun (k : Int) (h1 : 5 ≤ k) (h2 : k ≤ 7) wx (hx : Ext w wx) => show Calls Tryz.prog 27 #[.slice B m cb, .int .i64 k] wx fun e w' => e = .returned (.tuple #[.string ⟨#[]⟩, .int .i64 2]) ∧ Ext wx w' from by
    have h := D2 k wx hx
    unfold Cod.txb at h
    rw [if_neg (fun x => x ⟨by omega, by omega⟩), hmy, if_pos rfl] at h
    exact h)
  clear D1 D2 hn hr hcap hl hnl hm hq hml h64 hmy
  go_enter Tryz.func9, Tryz.ntmps9
  go_wp2_with fail
  refine Calls.mono (HB.out _) ?_
  rintro e w1 ⟨rfl, hx⟩
  have Xp := hid hx
  clear hx 
  go_wp2_with fail
  refine Calls.mono (H1.out _ Xp.out) ?_
  rintro e w2 ⟨rfl, hx⟩
  replace Xp := hid (Xp.out.then hx)
  clear hx 
  go_wp2_with fail
  refine Calls.mono (H2.out _ Xp.out) ?_
  rintro e w3 ⟨rfl, hx⟩
  replace Xp := hid (Xp.out.then hx)
  clear hx 
  go_wp2
  go_loopw [9, 10, 11, 12] (fun b c _ _ wr => ∃ j : Nat, j ≤ 4 ∧ c = .int .i64 ((j : Int) + 1) ∧ b = .bool true ∧ Hid (Ext w wr)) (fun _ c _ _ _ => 4 + 1 - (intOf c).toNat)
  case atStart => exact ⟨0, Nat.zero_le _, rfl, rfl, Xp⟩
  case round =>
    obtain ⟨j, hj, rfl, rfl, HX⟩ := hrel
    by_cases hlt : j < 4
    · have hjI : (j : Int) + 1 ≤ 4 := by omega
      have HJ := hid (show j + 1 ≤ 4 by omega)
      have CC := hid (C1.out ((j : Int) + 1) (by omega) (by omega))
      clear hj hlt
      go_wp2_with fail
      refine Calls.mono (CC.out _ HX.out) ?_
      rintro e w5 ⟨rfl, hx⟩
      have HX5 := hid (HX.out.then hx)
      clear hx
      go_wp2
      go_roundw
      case rel => exact ⟨j + 1, HJ.out, by go_num, rfl, HX5⟩
      case measure => simp [intOf]; have := HJ.out; omega
    · obtain rfl : j = 4 := by omega
      rw [show ((4 : Nat) : Int) + 1 = 5 from rfl]
      clear hlt hj
      replace Xp := HX
      clear HX
      go_wp2
      go_loopw [13, 14, 15, 16] (fun b c _ _ wr => ∃ j : Nat, j ≤ 3 ∧ c = .int .i64 ((j : Int) + 5) ∧ b = .bool true ∧ Hid (Ext w wr)) (fun _ c _ _ _ => 7 + 1 - (intOf c).toNat)
      case atStart => exact ⟨0, Nat.zero_le _, rfl, rfl, Xp⟩
      case round =>
        obtain ⟨j, hj, rfl, rfl, HX⟩ := hrel
        by_cases hlt : j < 3
        · have hjI : (j : Int) + 5 ≤ 7 := by omega
          have HJ := hid (show j + 1 ≤ 3 by omega)
          have CC := hid (C2.out ((j : Int) + 5) (by omega) (by omega))
          clear hj hlt
          go_wp2_with fail
          refine Calls.mono (CC.out _ HX.out) ?_
          rintro e w5 ⟨rfl, hx⟩
          have HX5 := hid (HX.out.then hx)
          clear hx
          go_wp2
          go_roundw
          case rel => exact ⟨j + 1, HJ.out, by go_num, rfl, HX5⟩
          case measure => simp [intOf]; have := HJ.out; omega
        · obtain rfl : j = 3 := by omega
          rw [show ((3 : Nat) : Int) + 5 = 8 from rfl]
          clear hlt hj
          replace Xp := HX
          clear HX
          go_wp2
          go_returns
          exact ⟨rfl, Xp.out⟩
theorem codecLeast_walk (l : List Nat) (t : List (List UInt8)) (A B : Option Addr) (n m cap cb : Nat) (w : World) (hn : l.length = n) (hr : Rd w A (u64s l)) (hcap : n ≤ cap) (hl : ∀ x ∈ l, x < 18446744073709551616) (hnl : n ≤ 1000000000000000) (hm : t.length = m) (hq : Rd w B (txs t)) (hml : m ≤ 100000000000000) :
    Calls Tryz.prog 9 #[.slice A n cap, .slice B m cb] w fun e w' => e = .returned (.bool true) ∧ Ext w w' := by
  by_cases h64 : 64 < n
  · cases hmy : Dct.mny t with
    | false => exact least_01 l t A B n m cap cb w hn hr hcap hl hnl hm hq hml h64 hmy
    | true => exact least_00 l t A B n m cap cb w hn hr hcap hl hnl hm hq hml h64 hmy
  · cases hmy : Dct.mny t with
    | false => exact least_11 l t A B n m cap cb w hn hr hcap hl hnl hm hq hml h64 hmy
    | true => exact least_10 l t A B n m cap cb w hn hr hcap hl hnl hm hq hml h64 hmy
set_option maxRecDepth 100000 in
set_option maxHeartbeats 1600000 in
theorem codecBooks_walk (l : List (List UInt8)) (A : Option Addr) (n cap : Nat) (w : World) (hn : l.length = n) (hr : Rd w A (txs l)) (hnl : n ≤ 100000000000000) :
    Calls Tryz.prog 10 #[.slice A n cap] w fun e w' => e = .returned (.bool true) ∧ Ext w w' := by
  have HB := hid (fun wx => codecBegun_any wx)
  have H1 := hid (cTexts_any l A n cap 6 w hn hr (by omega))
  have H2 := hid (fun C c wx (h : Rd wx C (txs l.reverse)) => cTexts_any l.reverse C n c 6 wx (by rw [List.length_reverse, hn]) h (by omega))
  unfold Cod.txb at H1 H2
  rw [if_neg (by decide)] at H1
  simp only [Cod.mny_rev] at H2
  simp only [show ¬ ¬ ((5 : Int) ≤ 6 ∧ (6 : Int) ≤ 7) by decide, if_false] at H2
  cases hm : Dct.mny l with
  | true =>
    rw [hm] at H1
    rw [if_pos rfl] at H1
    clear hn hr hnl hm H2
    go_enter Tryz.func10, Tryz.ntmps10
    go_wp2_with fail
    refine Calls.mono H1.out ?_
    rintro e w1 ⟨rfl, hx⟩
    have Xp := hid hx
    clear hx
    go_wp2_with fail
    refine Calls.mono (HB.out _) ?_
    rintro e w2 ⟨rfl, hx⟩
    replace Xp := hid (Xp.out.then hx)
    clear hx
    go_wp2
    go_returns
    exact ⟨rfl, Xp.out⟩
  | false =>
    rw [hm] at H1
    simp only [hm] at H2
    simp only [Bool.false_eq_true, if_false] at H1 H2
    obtain ⟨g1, g2⟩ := Dct.mny_false hm
    have hrev := Cod.bok_rev l
    rw [show (6 : Int).toNat = 6 from rfl] at H1
    simp only [show (6 : Int).toNat = 6 from rfl] at H2
    obtain ⟨S1, hS1⟩ : ∃ S : ByteArray, S = ⟨(Cod.tg (Cod.tx l) 6).toArray⟩ := ⟨_, rfl⟩
    obtain ⟨S2, hS2⟩ : ∃ S : ByteArray, S = ⟨(Cod.tg (Cod.tx l.reverse) 6).toArray⟩ := ⟨_, rfl⟩
    have hz : (S2.size : Int) = (S1.size : Int) := by rw [hS1, hS2, str_size, str_size, Cod.tg_len, Cod.tg_len, Cod.tx6, Cod.tx6, hrev]
    rw [← hS1] at H1
    rw [← hS2] at H2
    have HN := hid hn
    have HR := hid hr
    have hnI : (n : Int) ≤ 64 := by omega
    have HREV := hid (fun k (hk : k < l.length) => show (l.drop k).reverse = (l.drop (k + 1)).reverse ++ [l[k]] by rw [List.drop_eq_getElem_cons hk, List.reverse_cons])
    have HD0 := hid (show l.drop 0 = l from rfl)
    have HDN := hid (show (l.drop n).reverse = [] by rw [← hn, List.drop_length]; rfl)
    have HDL := hid (fun k => show (l.drop k).reverse.length = n - k by rw [List.length_reverse, List.length_drop, hn])
    clear hn hr hnl hm g1 g2 hrev hS1 hS2
    go_enter Tryz.func10, Tryz.ntmps10
    go_wp2_with fail
    refine Calls.mono H1.out ?_
    rintro e w1 ⟨rfl, hx⟩
    have Xp := hid hx
    clear hx
    go_wp2_with fail
    refine Calls.mono (HB.out _) ?_
    rintro e w2 ⟨rfl, hx⟩
    replace Xp := hid (Xp.out.then hx)
    clear hx
    go_wp2
    go_loopw [5, 6] (fun v c wr => ∃ i : Nat, i ≤ n ∧ c = .int .i64 ((i : Int) - 1) ∧ Hid (wr.ownsRow w.heap.size 9 1 v (n - i) (txs (l.drop i).reverse)) ∧ Hid (Ext w wr)) (fun _ c _ => (intOf c + 1).toNat)
    case atStart => exact ⟨n, Nat.le_refl _, rfl, hid (by rw [HDN.out, Nat.sub_self]; exact World.ownsRow_nil _ _ _ _), Xp⟩
    case round =>
      obtain ⟨i, hi, rfl, HO, HX⟩ := hrel
      rcases Nat.eq_zero_or_pos i with h0 | h0
      · subst h0
        rw [HD0.out, Nat.sub_zero] at HO
        rw [show ((0 : Nat) : Int) - 1 = -1 from rfl]
        obtain ⟨A3, c3, rfl, hrd3, _⟩ := Rd.owned HO.out
        have C2 := hid (H2.out A3 c3 wr hrd3)
        clear hi hrd3
        go_wp2_with fail
        refine Calls.mono C2.out ?_
        rintro e w5 ⟨rfl, hx⟩
        have X5 := hid (HX.out.then hx)
        clear hx
        go_wp2
        go_returns
        exact ⟨rfl, X5.out⟩
      · obtain ⟨j, rfl⟩ : ∃ j, i = j + 1 := ⟨i - 1, by omega⟩
        have hj : ((j + 1 : Nat) : Int) - 1 = (j : Int) := by omega
        rw [hj]
        have hjl : j < l.length := by rw [HN.out]; omega
        obtain ⟨b1, o1, e1, l1, c1⟩ := (HR.out.keep HX.out).texts j hjl
        subst e1
        have d1 := c1 j hjl
        have HV := hid (HREV.out j hjl)
        generalize l[j] = s at *
        have hjI : (j : Int) < (n : Int) := by omega
        have HJ := hid hi
        have hn64 : n ≤ 64 := by omega
        have HN64 := hid hn64
        have hnj : n - (j + 1) + 1 = n - j := by omega
        have HNJ := hid hnj
        clear c1 hjl hi h0 hj hn64 hnj
        generalize hq : n - (j + 1) = q at *
        have HQ := hid (show q ≤ 64 by have := HN64.out; omega)
        clear hq
        go_wp2_with (at_builtin; refine wpList_app rfl (.tmp 27) (.tmp 32) rowTx rfl _ q _ rfl (own_ext HO.out ((ext_refl _).new _)) _ 1 (txs [s]) rfl (Src.rd Tryz.underlying33 _ 1 1 _ rfl (rd_lit rfl rfl) (txs_one _) (fun h => by cases h)) (by have := HQ.out; unfold maxLen; omega) (by have := HQ.out; omega) (by have := HX.out.size; simp; omega) ?_; intro v' w3 hown3 hgrow hat hbel; have HO3 := hid hown3; have HX3 : Hid (Ext w w3) := hid (Below.trans (Ext.new HX.out _) hbel); clear hown3 hgrow hat hbel)
        go_roundw
        case rel => exact ⟨j, by have := HJ.out; omega, by go_num, hid (by rw [HV.out, txs_app, ← HNJ.out]; exact HO3.out), HX3⟩
        case measure => simp [intOf] <;> omega
end Go.Proofs.YtdmmodeplfmpnaaGreat
end
