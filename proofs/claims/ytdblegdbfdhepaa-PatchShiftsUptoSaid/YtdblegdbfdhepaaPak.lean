/- Patch: the reader: one that stands out, and stays: walk; all ways together. -/
import Derived.Test.YtdblegdbfdhepaaPaj
import Derived.Test.YtdblegdbfdhepaaPal
namespace Go.Proofs.Ytdblegdbfdhepaa
open Go.RowKit Hy
set_option maxHeartbeats 1000000 in
theorem pOne_ok (M : List Nat) (last : Int) (c : UInt8) (t : List UInt8) (g base wd : Nat) (v : Value) (w : World) (h : PRd g w (c :: t)) (hgb : g < base) (ho : w.ownsRow base 33 1 v M.length (u64s M)) (hM : M.length ≤ 64) (hr : ¬ M.length ≤ c.toNat) (hs : ¬ (c.toNat : Int) ≤ last) (hx : M[c.toNat]? = some 0) (hts : t.length ≤ 281474976710656) (a k e0 : Nat) (hrd : Vary.rd t = (a, k, e0)) (hk : k ≤ t.length) (he : e0 = 0) (ha : a < 18446744073709551616) (hf : ¬ Lib.bitLen a ≤ wd) :
    Calls Try.prog 95 #[.pointer (some ⟨g, 0, none⟩), v, .int .i64 wd, .int .i64 last] w (POne g base wd M last (c :: t) v w) := by
  have HB := hid (pBytes_any (c :: t) 1 g w h (by decide))
  have HLT := hid (show g < w.heap.size from Blk.lt h)
  have hI := fun wx : World => run_ix0 (P := Try.prog) (w := wx) Try.underlying9 ⟨[c].toArray⟩ .i64 c [] rfl
  obtain ⟨XC, hXC⟩ : ∃ S : ByteArray, S = ⟨[c].toArray⟩ := ⟨_, rfl⟩
  rw [show (⟨((c :: t).take 1).toArray⟩ : ByteArray) = XC from hXC.symm, show (c :: t).drop 1 = t from rfl] at HB
  rw [← hXC] at hI
  have hzI : (c.toNat : Int) ≤ 255 := by have := c.toNat_lt; omega
  have HO := hid ho
  have hmI : (M.length : Int) ≤ 64 := by omega
  have HGB := hid hgb
  unfold POne
  rw [Pat.onE_ok hr hs (by rw [List.getD_eq_getElem?_getD, hx]; rfl) (by rw [hrd, he]) hf]
  have hrI : (c.toNat : Int) < (M.length : Int) := by omega
  have HNU := hid (fun wx (h : PRd g wx t) => pNumber_any t g wx h hts a k e0 hrd hk)
  subst he
  have COU := hid (fun wx => out_any a wd wx ha)
  rw [decide_eq_true (by omega)] at COU
  have haI : (a : Int) ≤ 18446744073709551615 := by omega
  have HXX := hid hx
  clear h ho hM hXC hgb hr hx hrd ha hf
  generalize c.toNat = z at *
  have HZN := hid (show z < M.length by omega)
  go_enter Try.func95, Try.ntmps95
  go_wp2_with fail
  refine Calls.mono HB.out ?_
  rintro e w1 (⟨h1, _⟩ | ⟨_, rfl, hst, hb⟩)
  · exact absurd h1 (by simp)
  · have HBT := hid hb
    have HST := hid hst
    have HO1 := hid (own_but HO.out hb HGB.out)
    obtain ⟨g3, c3, rfl, hbg, _⟩ := own_base HO1.out (by have := HZN.out; omega)
    have HBG := hid hbg
    have d0 := HO1.out.cellAt z (by have := HZN.out; omega)
    rw [u64s_get _ _ HZN.out, (List.getElem?_eq_some_iff.1 HXX.out).2] at d0
    clear hb hst hbg
    go_wp2_with fail
    refine Calls.mono (HNU.out _ HST.out) ?_
    rintro e w2 ⟨rfl, hst2, hb2⟩
    have HBL := hid (HBT.out.next hb2)
    have HST2 := hid hst2
    have HO2 := hid (own_but HO1.out hb2 HGB.out)
    have d0 := HO2.out.cellAt z (by have := HZN.out; omega)
    rw [u64s_get _ _ HZN.out, (List.getElem?_eq_some_iff.1 HXX.out).2] at d0
    have f0 := HO2.out.frozenAt z
    clear hst2 hb2
    go_wp2_with fail
    refine Calls.mono (COU.out _) ?_
    rintro e _ ⟨rfl, rfl⟩
    go_wp2
    go_returns
    refine ⟨rfl, ?_, fun _ => ⟨?_, ?_⟩⟩
    · exact (HBL.out.two _).put rfl _
    · exact Blk.far HST2.out (p := ⟨g3, z, none⟩) (by have := HBG.out; have := HGB.out; show g ≠ g3; omega) _
    · rw [← u64s_set]; exact own_set HO2.out rfl z _
/-- all ways -/
theorem pOne_any (M : List Nat) (last : Int) (s : List UInt8) (g base wd : Nat) (v : Value) (w : World) (h : PRd g w s) (hgb : g < base) (ho : w.ownsRow base 33 1 v M.length (u64s M)) (hM : M.length ≤ 64) (hts : s.length ≤ 281474976710656) :
    Calls Try.prog 95 #[.pointer (some ⟨g, 0, none⟩), v, .int .i64 wd, .int .i64 last] w (POne g base wd M last s v w) := by
  cases s with
  | nil => exact pOne_nil M last g base wd v w h
  | cons c t =>
    have htl : t.length ≤ 281474976710656 := by rw [List.length_cons] at hts; omega
    by_cases hr : M.length ≤ c.toNat
    · exact pOne_range M last c t g base wd v w h hgb ho hM hr
    by_cases hs : (c.toNat : Int) ≤ last
    · exact pOne_state M last c t g base wd v w h hgb ho hM hr hs
    obtain ⟨x, hx⟩ : ∃ x, M[c.toNat]? = some x := ⟨M[c.toNat]'(by omega), List.getElem?_eq_getElem (by omega)⟩
    by_cases hx0 : x = 0
    · subst hx0
      obtain ⟨⟨a, k, e0⟩, hrd⟩ : ∃ p, Vary.rd t = p := ⟨_, rfl⟩
      have hk : k ≤ t.length := by have := (Vary.rd_bd t).1; rw [hrd] at this; exact this
      by_cases he : e0 = 0
      · have ha : a < 18446744073709551616 := by have := (Vary.rd_bd t).2.1; rw [hrd] at this; exact this
        by_cases hf : Lib.bitLen a ≤ wd
        · exact pOne_fits M last c t g base wd v w h hgb ho hM hr hs hx htl a k e0 hrd hk he ha hf
        · exact pOne_ok M last c t g base wd v w h hgb ho hM hr hs hx htl a k e0 hrd hk he ha hf
      · exact pOne_vary M last c t g base wd v w h hgb ho hM hr hs hx htl a k e0 hrd hk he
    · exact pOne_form M last c t g base wd v w h hgb ho hM hr hs x hx hx0
end Go.Proofs.Ytdblegdbfdhepaa
