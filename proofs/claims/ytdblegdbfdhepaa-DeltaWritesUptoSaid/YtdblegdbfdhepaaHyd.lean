/- Hybrid: Raw and Write: walks. -/
import Derived.Test.YtdblegdbfdhepaaHyc
import Derived.Test.YtdblegdbfdhepaaHyq
import Derived.Test.YtdblegdbfdhepaaBpk
namespace Hy.Hyb
open Go
/-- what Write answers -/
@[irreducible] def wrt (l : List Nat) (w : Int) : List UInt8 × Nat := if (Bits.pk l w).2 ≠ 0 then ([], (Bits.pk l w).2) else (raw l w.toNat, 0)
theorem wrt_bad {l : List Nat} {w : Int} (h : (Bits.pk l w).2 ≠ 0) : wrt l w = ([], (Bits.pk l w).2) := by unfold wrt; rw [if_pos h]
theorem wrt_ok {l : List Nat} {w : Int} (h : (Bits.pk l w).2 = 0) : wrt l w = (raw l w.toNat, 0) := by unfold wrt; rw [if_neg (by omega)]
theorem wrt_of {l : List Nat} {w : Nat} (h1 : w ≤ 64) (h2 : l.length ≤ 64) (h3 : ∀ n ∈ l, n < 2 ^ w) : wrt l w = (raw l w, 0) := by
  have h := Bits.pk_of h1 h2 h3
  rw [wrt_ok (by rw [h]), Int.toNat_natCast]
theorem wrt_inv {l : List Nat} {w : Int} (h : (wrt l w).2 = 0) (hl : ∀ n ∈ l, n < 2 ^ 64) : ∃ k : Nat, w = k ∧ k ≤ 64 ∧ l.length ≤ 64 ∧ (∀ n ∈ l, n < 2 ^ k) ∧ wrt l w = (raw l k, 0) ∧ Bits.pk l w = (Bits.packed l k, 0) := by
  have h0 : (Bits.pk l w).2 = 0 := by
    by_cases hp : (Bits.pk l w).2 = 0
    · exact hp
    · rw [wrt_bad hp] at h; exact h
  obtain ⟨h1, h2, h3, h4, h5⟩ := Bits.pk_ok h0 hl
  refine ⟨w.toNat, by omega, by omega, h3, h4, wrt_ok h0, h5⟩
end Hy.Hyb
namespace Go.Proofs.Ytdblegdbfdhepaa
open Go.RowKit Hy
set_option maxRecDepth 100000 in
set_option maxHeartbeats 800000 in
theorem hyRaw_any (l : List Nat) (A : Option Addr) (n cap wd : Nat) (w : World) (hn : l.length = n) (hr : Rd w A (u64s l)) (hcap : n ≤ cap) (hnl : n ≤ 64) (hl : ∀ x ∈ l, x < 2 ^ wd) (hwd : wd ≤ 64) :
    Calls Try.prog 52 #[.slice A n cap, .int .i64 wd] w fun e w' => e = .returned (.string ⟨(Hyb.raw l wd).toArray⟩) ∧ Ext w w' := by
  have HC := hid (parts_any l A n cap w hn hr hcap hnl)
  have HOK := hid (Hyb.parts_ok wd 64 l.length l [] (Nat.le_refl _) (by simpa using hl) (by simp; omega))
  obtain ⟨V, hV⟩ : ∃ V, V = Hyb.raw l wd := ⟨_, rfl⟩
  have HL := hid (show V.length ≤ 600 by
    have := Hyb.raw_len l wd hwd (by omega)
    have h2 := Nat.mul_le_mul (show l.length ≤ 64 by omega) hwd
    rw [hV]; unfold Bits.size at this; omega)
  obtain ⟨P, hP⟩ : ∃ P, P = Hyb.parts [] l := ⟨_, rfl⟩
  have HF := hid (show Hyb.flat wd P = V by rw [hV, hP]; rfl)
  rw [← hV]
  rw [← hP] at HC HOK
  have HW := hid hwd
  have HPL := hid (show P.length ≤ 200 by rw [hP]; have := Hyb.parts_len l.length l [] (Nat.le_refl _); omega)
  clear hV hP hr hl hwd hn hnl
  go_enter Try.func52, Try.ntmps52
  go_wp2_with fail
  refine Calls.mono HC.out ?_
  rintro e w1 ⟨C, c, xs, rfl, hrd, hpv, hlx, hx⟩
  have HRD := hid hrd
  have HPV := hid hpv
  have HLX := hid hlx
  have HX := hid hx
  obtain ⟨m, hm⟩ : ∃ m, m = P.length := ⟨_, rfl⟩
  have HM := hid hm
  rw [← hm]
  have hmI : (m : Int) ≤ 200 := by have := HPL.out; omega
  clear hrd hpv hlx hx HC hm
  go_wp2
  go_loopw [5, 7, 11] (fun s _ i wr => ∃ (k : Nat) (S : ByteArray), k ≤ m ∧ i = .int .i64 k ∧ s = .string S ∧ Hid (S.data.toList ++ Hyb.flat wd (P.drop k) = V) ∧ Ext w1 wr) (fun _ _ i _ => m - (intOf i).toNat)
  case atStart => exact ⟨0, _, Nat.zero_le _, rfl, rfl, hid (by rw [List.drop_zero, HF.out]; rfl), ext_refl _⟩
  case round =>
    obtain ⟨k, S, hk, rfl, rfl, HS, X⟩ := hrel
    have hkI : (k : Int) ≤ (m : Int) := by omega
    by_cases hlt : k < m
    · have hltI : (k : Int) < (m : Int) := by omega
      obtain ⟨p, hp⟩ : ∃ p, P[k]? = some p := ⟨_, List.getElem?_eq_getElem (by rw [← HM.out]; exact hlt)⟩
      obtain ⟨v, hxv, hpart⟩ := HPV.out k p hp
      have hok := HOK.out p (List.mem_of_getElem? hp)
      have HD := hid (show Hyb.flat wd (P.drop k) = Hyb.bytes wd p ++ Hyb.flat wd (P.drop (k + 1)) from by
        obtain ⟨h1, rfl⟩ := List.getElem?_eq_some_iff.1 hp
        rw [List.drop_eq_getElem_cons h1, Hyb.flat_cons])
      have HSV : Hid (S.data.toList ++ Hyb.bytes wd p ++ Hyb.flat wd (P.drop (k + 1)) = V) := hid (by rw [← HS.out, HD.out, List.append_assoc])
      have hSl : S.data.toList.length + (Hyb.bytes wd p).length ≤ 600 := by
        have h1 := HL.out
        rw [← HSV.out, List.length_append, List.length_append] at h1; omega
      have hSs : S.size ≤ 600 := by have : S.data.toList.length = S.size := Array.length_toList; omega
      have hBs : (Hyb.bytes wd p).length ≤ 600 := by omega
      obtain ⟨cb, co, rfl, hcb, hcc⟩ := HRD.out (by rw [HLX.out, ← HM.out]; omega)
      have d0 := (X.cell (p := ⟨cb, co + k, none⟩) hcb).trans (hcc k v hxv)
      have HSI := hid (show ∀ B : ByteArray, B = ⟨(Hyb.bytes wd p).toArray⟩ → (S ++ B).data.toList ++ Hyb.flat wd (P.drop (k + 1)) = V from fun B hB => by
        subst hB; rw [← HSV.out]; simp)
      have hBz : (⟨(Hyb.bytes wd p).toArray⟩ : ByteArray).size ≤ 600 := by rw [str_size]; exact hBs
      cases p with
      | run x q =>
        obtain rfl := hpart
        have CR := fun wx : World => hid (runBytes_any x q wd wx hok.2.1 hok.2.2 hok.1 HW.out)
        obtain ⟨B, hB⟩ : ∃ B : ByteArray, B = ⟨(Hyb.bytes wd (.run x q)).toArray⟩ := ⟨_, rfl⟩
        rw [← hB] at CR hBz
        have HSJ := hid (HSI.out B hB)
        have HPO : Hid True := hid trivial
        clear hp hxv hok hB HSI hSl hBs hcc HS HD HSV
        go_wp2_with fail
        refine Calls.mono (CR _).out ?_
        rintro e w2 ⟨rfl, hx⟩
        have X2 := X.then hx
        clear hx
        go_wp2
        go_roundw
        case rel => exact ⟨k + 1, _, by omega, by go_num, rfl, HSJ, X2⟩
        case measure => simp [intOf]; omega
      | blk b =>
        obtain ⟨bb, bc, rfl, hbr, _, _⟩ := hpart
        have HBR := hid (hbr.keep X)
        have CR := hid (blkBytes_any b (some ⟨bb, 0, none⟩) b.length bc wd wr rfl HBR.out (List.length_pos_iff.2 hok.1) hok.2.1 hok.2.2 HW.out)
        obtain ⟨B, hB⟩ : ∃ B : ByteArray, B = ⟨(Hyb.bytes wd (.blk b)).toArray⟩ := ⟨_, rfl⟩
        rw [← hB] at CR hBz
        have HSJ := hid (HSI.out B hB)
        clear hp hxv hok hB HSI hSl hBs hcc HS HD HSV hbr
        go_wp2_with fail
        refine Calls.mono CR.out ?_
        rintro e w2 ⟨rfl, hx⟩
        have X2 := X.then hx
        clear hx
        go_wp2
        go_roundw
        case rel => exact ⟨k + 1, _, by omega, by go_num, rfl, HSJ, X2⟩
        case measure => simp [intOf]; omega
    · obtain rfl : k = m := by omega
      have HE := hid (show S = ⟨V.toArray⟩ from by
        have h1 := HS.out
        rw [HM.out, List.drop_length, Hyb.flat_nil, List.append_nil] at h1
        rw [← h1])
      go_wp2
      go_returns
      exact ⟨by rw [← HE.out]; rfl, HX.out.then X⟩
set_option maxHeartbeats 800000 in
theorem hyWrite_any (l : List Nat) (A : Option Addr) (n cap : Nat) (wd : Int) (w : World) (hn : l.length = n) (hr : Rd w A (u64s l)) (hcap : n ≤ cap) (hl : ∀ x ∈ l, x < 18446744073709551616) (hnl : n ≤ 9223372036854775806) :
    Calls Try.prog 20 #[.slice A n cap, .int .i64 wd] w fun e w' => e = .returned (.tuple #[.string ⟨(Hyb.wrt l wd).1.toArray⟩, .int .i64 (Hyb.wrt l wd).2]) ∧ Ext w w' := by
  have CP := hid (pack_any l A n cap wd w hn hr hl hnl)
  have HR := hid (fun wx (hx : Ext w wx) => hyRaw_any l A n cap wd.toNat wx hn (hr.keep hx) hcap)
  by_cases h0 : (Bits.pk l wd).2 = 0
  · obtain ⟨c1, c2, c3, c4, c5⟩ := Bits.pk_ok h0 hl
    have CR := hid (fun wx hx => HR.out wx hx (by omega) c4 (by omega))
    obtain ⟨k, rfl⟩ := Int.eq_ofNat_of_zero_le c1
    rw [Hyb.wrt_ok h0]
    rw [Int.toNat_natCast] at CR c5 ⊢
    rw [c5] at CP
    obtain ⟨B, hB⟩ : ∃ B : ByteArray, B = ⟨(Hyb.raw l k).toArray⟩ := ⟨_, rfl⟩
    obtain ⟨Q, hQ⟩ : ∃ Q : ByteArray, Q = ⟨(Bits.packed l k).toArray⟩ := ⟨_, rfl⟩
    rw [← hQ] at CP
    rw [← hB] at CR ⊢
    clear hB hQ HR hr hl hnl h0 c1 c2 c3 c4 c5
    go_enter Try.func20, Try.ntmps20
    go_wp2_with fail
    refine Calls.mono CP.out ?_
    rintro e w1 ⟨rfl, hx⟩
    have X1 := hid hx
    clear hx
    go_wp2_with fail
    refine Calls.mono (CR.out _ X1.out) ?_
    rintro e w2 ⟨rfl, hx⟩
    have X2 := hid hx
    clear hx
    go_wp2
    go_returns
    exact ⟨rfl, X1.out.then X2.out⟩
  · rw [Hyb.wrt_bad h0]
    have hp := Bits.pk_bad h0
    rw [hp] at CP
    obtain ⟨er, he⟩ : ∃ er, er = (Bits.pk l wd).2 := ⟨_, rfl⟩
    rw [← he] at CP h0 ⊢
    have h3 : ((er : Int) != 0) = true := by rw [bne_iff_ne]; omega
    have h4 : ((er : Int) == 0) = false := by rw [beq_eq_false_iff_ne]; omega
    clear he HR hr hl hnl h0 hp
    go_enter Try.func20, Try.ntmps20
    go_wp2_with fail
    refine Calls.mono CP.out ?_
    rintro e w1 ⟨rfl, hx⟩
    go_wp2
    go_returns
    exact ⟨rfl, hx⟩
end Go.Proofs.Ytdblegdbfdhepaa
