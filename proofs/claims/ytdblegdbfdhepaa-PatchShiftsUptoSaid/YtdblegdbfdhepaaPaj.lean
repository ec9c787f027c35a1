/- Patch: the reader: one that stands out: walk. -/
import Derived.Test.YtdblegdbfdhepaaPai
import Derived.Test.YtdblegdbfdhepaaPag
import Derived.Test.YtdblegdbfdhepaaOws
import Derived.Test.YtdblegdbfdhepaaOwf
namespace Hy
open Go Go.RowKit
theorem u64s_set (l : List Nat) (i x : Nat) : (u64s l).set i (.int .u64 (x : Int)) = u64s (l.set i x) := by unfold u64s; rw [List.map_set]
theorem own_base {w : World} {base : Nat} {e : TypeId} {size n : Nat} {v : Value} {xs : List Value} (h : w.ownsRow base e size v n xs) (hn : 0 < n) : ∃ g c, v = .slice (some ⟨g, 0, none⟩) n c ∧ base ≤ g ∧ g < w.heap.size ∧ ∃ cur, Blk w g e cur := by
  rcases h.2 with ⟨_, h⟩ | ⟨g, c, cur, hv, hb, hg, _⟩
  · omega
  · exact ⟨g, c, hv, hb, Blk.lt (cs := cur) hg, cur, hg⟩
theorem But.next {g : Nat} {w w' w'' : World} (h : But g w w') (k : But g w' w'') : But g w w'' :=
  ⟨k.os.trans h.os, k.tape.trans h.tape, k.output.trans h.output, Nat.le_trans h.size k.size, fun i hi hn => (k.block i (Nat.lt_of_lt_of_le hi h.size) hn).trans (h.block i hi hn)⟩
/-- all blocks but two as they were -/
structure But2 (g : Nat) (o : Option Nat) (w w' : World) : Prop where
  os : w'.os = w.os
  tape : w'.tape = w.tape
  output : w'.output = w.output
  size : w.heap.size ≤ w'.heap.size
  block : ∀ i, i < w.heap.size → i ≠ g → o ≠ some i → w'.heap[i]? = w.heap[i]?
theorem But.two {g : Nat} {w w' : World} (h : But g w w') (o : Option Nat) : But2 g o w w' := ⟨h.os, h.tape, h.output, h.size, fun i hi hn _ => h.block i hi (by intro e; injection e with e; exact hn e)⟩
theorem But2.next {g : Nat} {o : Option Nat} {w w' w'' : World} (h : But2 g o w w') (k : But2 g o w' w'') : But2 g o w w'' :=
  ⟨k.os.trans h.os, k.tape.trans h.tape, k.output.trans h.output, Nat.le_trans h.size k.size, fun i hi hn ho => (k.block i (Nat.lt_of_lt_of_le hi h.size) hn ho).trans (h.block i hi hn ho)⟩
theorem But2.put {g b i : Nat} {o : Option Nat} {w w' : World} (h : But2 g o w w') (hb : o = some b) (u : Value) : But2 g o w (w'.setCell ⟨b, i, none⟩ u) := by
  have hs : (w'.setCell ⟨b, i, none⟩ u).heap.size = w'.heap.size := by unfold World.setCell; split <;> simp
  refine ⟨?_, ?_, ?_, by rw [hs]; exact h.size, fun j hj hn ho => ?_⟩
  · rw [show (w'.setCell ⟨b, i, none⟩ u).os = w'.os from by unfold World.setCell; split <;> rfl]; exact h.os
  · rw [show (w'.setCell ⟨b, i, none⟩ u).tape = w'.tape from by unfold World.setCell; split <;> rfl]; exact h.tape
  · rw [show (w'.setCell ⟨b, i, none⟩ u).output = w'.output from by unfold World.setCell; split <;> rfl]; exact h.output
  · rw [Below.heap_setCell w' ⟨b, i, none⟩ u j (fun e => ho (by rw [hb, show j = b from e]))]
    exact h.block j hj hn ho
theorem But2.below {g : Nat} {o : Option Nat} {w w' : World} (h : But2 g o w w') {base : Nat} (hg : base ≤ g) (hw : base ≤ w.heap.size) (ho : ∀ b, o = some b → base ≤ b) : Below base w w' :=
  ⟨h.os, h.tape, h.output, h.size, fun k hk => h.block k (by omega) (by omega) (fun e => by have := ho k e; omega)⟩
theorem Blk.but {g g' : Nat} {w w' : World} {t : TypeId} {cs : Array Value} (h : Blk w g' t cs) (hx : But g w w') (hne : g' ≠ g) : Blk w' g' t cs := (hx.block g' h.lt (by intro e; injection e with e; exact hne e)).trans h
theorem Blk.but2 {g g' : Nat} {o : Option Nat} {w w' : World} {t : TypeId} {cs : Array Value} (h : Blk w g' t cs) (hx : But2 g o w w') (hne : g' ≠ g) (ho : o ≠ some g') : Blk w' g' t cs := (hx.block g' h.lt hne ho).trans h
end Hy
namespace Go.Proofs.Ytdblegdbfdhepaa
open Go.RowKit Hy
/-- what one answers -/
def POne (g base wd : Nat) (M : List Nat) (last : Int) (s : List UInt8) (v : Value) (w : World) (e : Ending) (w' : World) : Prop :=
  e = .returned (.tuple #[.int .i64 ((Pat.onE wd M last s).2.1 : Nat), .int .i64 ((Pat.onE wd M last s).1 : Nat)]) ∧ But2 g v.ownBlock w w' ∧
    ((Pat.onE wd M last s).1 = 0 → PRd g w' (Pat.onE wd M last s).2.2.2 ∧ w'.ownsRow base 33 1 v M.length (u64s (Pat.onE wd M last s).2.2.1))
set_option maxHeartbeats 1000000 in
theorem pOne_nil (M : List Nat) (last : Int) (g base wd : Nat) (v : Value) (w : World) (h : PRd g w []) :
    Calls Try.prog 95 #[.pointer (some ⟨g, 0, none⟩), v, .int .i64 wd, .int .i64 last] w (POne g base wd M last [] v w) := by
  have HB := hid (pBytes_any [] 1 g w h (by decide))
  have HLT := hid (show g < w.heap.size from Blk.lt h)
  unfold POne
  rw [Pat.onE_nil]
  clear h
  go_enter Try.func95, Try.ntmps95
  go_wp2_with fail
  refine Calls.mono HB.out ?_
  rintro e w1 (⟨_, rfl, _, hb⟩ | ⟨h1, _⟩)
  · have HBT := hid hb
    clear hb
    go_wp2
    go_returns
    exact ⟨rfl, HBT.out.two _, fun h => by cases h⟩
  · exact absurd h1 (by simp)
set_option maxHeartbeats 1000000 in
theorem pOne_range (M : List Nat) (last : Int) (c : UInt8) (t : List UInt8) (g base wd : Nat) (v : Value) (w : World) (h : PRd g w (c :: t)) (hgb : g < base) (ho : w.ownsRow base 33 1 v M.length (u64s M)) (hM : M.length ≤ 64) (hr : M.length ≤ c.toNat) :
    Calls Try.prog 95 #[.pointer (some ⟨g, 0, none⟩), v, .int .i64 wd, .int .i64 last] w (POne g base wd M last (c :: t) v w) := by
  have HB := hid (pBytes_any (c :: t) 1 g w h (by decide))
  have HLT := hid (show g < w.heap.size from Blk.lt h)
  have hI := fun wx : World => run_ix0 (P := Try.prog) (w := wx) Try.underlying9 ⟨[c].toArray⟩ .i64 c [] rfl
  obtain ⟨XC, hXC⟩ : ∃ S : ByteArray, S = ⟨[c].toArray⟩ := ⟨_, rfl⟩
  rw [show (⟨((c :: t).take 1).toArray⟩ : ByteArray) = XC from hXC.symm, show (c :: t).drop 1 = t from rfl] at HB
  rw [← hXC] at hI
  have hzI : (c.toNat : Int) ≤ 255 := by have := c.toNat_lt; omega
  have HO := hid ho
  have hmI : (M.length : Int) ≤ 64 := by omega
  have HGB := hid hgb
  unfold POne
  rw [Pat.onE_range hr]
  have hrI : (M.length : Int) ≤ (c.toNat : Int) := by omega
  clear h ho hM hXC hgb hr
  generalize c.toNat = z at *
  go_enter Try.func95, Try.ntmps95
  go_wp2_with fail
  refine Calls.mono HB.out ?_
  rintro e w1 (⟨h1, _⟩ | ⟨_, rfl, hst, hb⟩)
  · exact absurd h1 (by simp)
  · have HBT := hid hb
    have HST := hid hst
    have HO1 := hid (own_but HO.out hb HGB.out)
    obtain ⟨A3, c3, rfl, hrd, _⟩ := Rd.owned HO1.out
    have HRD := hid hrd
    clear hb hst hrd
    go_wp2
    go_returns
    exact ⟨rfl, HBT.out.two _, fun h => by cases h⟩
set_option maxHeartbeats 1000000 in
theorem pOne_state (M : List Nat) (last : Int) (c : UInt8) (t : List UInt8) (g base wd : Nat) (v : Value) (w : World) (h : PRd g w (c :: t)) (hgb : g < base) (ho : w.ownsRow base 33 1 v M.length (u64s M)) (hM : M.length ≤ 64) (hr : ¬ M.length ≤ c.toNat) (hs : (c.toNat : Int) ≤ last) :
    Calls Try.prog 95 #[.pointer (some ⟨g, 0, none⟩), v, .int .i64 wd, .int .i64 last] w (POne g base wd M last (c :: t) v w) := by
  have HB := hid (pBytes_any (c :: t) 1 g w h (by decide))
  have HLT := hid (show g < w.heap.size from Blk.lt h)
  have hI := fun wx : World => run_ix0 (P := Try.prog) (w := wx) Try.underlying9 ⟨[c].toArray⟩ .i64 c [] rfl
  obtain ⟨XC, hXC⟩ : ∃ S : ByteArray, S = ⟨[c].toArray⟩ := ⟨_, rfl⟩
  rw [show (⟨((c :: t).take 1).toArray⟩ : ByteArray) = XC from hXC.symm, show (c :: t).drop 1 = t from rfl] at HB
  rw [← hXC] at hI
  have hzI : (c.toNat : Int) ≤ 255 := by have := c.toNat_lt; omega
  have HO := hid ho
  have hmI : (M.length : Int) ≤ 64 := by omega
  have HGB := hid hgb
  unfold POne
  rw [Pat.onE_state hr hs]
  have hrI : (c.toNat : Int) < (M.length : Int) := by omega
  clear h ho hM hXC hgb hr
  generalize c.toNat = z at *
  go_enter Try.func95, Try.ntmps95
  go_wp2_with fail
  refine Calls.mono HB.out ?_
  rintro e w1 (⟨h1, _⟩ | ⟨_, rfl, hst, hb⟩)
  · exact absurd h1 (by simp)
  · have HBT := hid hb
    have HST := hid hst
    have HO1 := hid (own_but HO.out hb HGB.out)
    obtain ⟨A3, c3, rfl, hrd, _⟩ := Rd.owned HO1.out
    have HRD := hid hrd
    clear hb hst hrd
    go_wp2
    go_returns
    exact ⟨rfl, HBT.out.two _, fun h => by cases h⟩
set_option maxHeartbeats 1000000 in
theorem pOne_form (M : List Nat) (last : Int) (c : UInt8) (t : List UInt8) (g base wd : Nat) (v : Value) (w : World) (h : PRd g w (c :: t)) (hgb : g < base) (ho : w.ownsRow base 33 1 v M.length (u64s M)) (hM : M.length ≤ 64) (hr : ¬ M.length ≤ c.toNat) (hs : ¬ (c.toNat : Int) ≤ last) (x : Nat) (hx : M[c.toNat]? = some x) (hx0 : x ≠ 0) :
    Calls Try.prog 95 #[.pointer (some ⟨g, 0, none⟩), v, .int .i64 wd, .int .i64 last] w (POne g base wd M last (c :: t) v w) := by
  have HB := hid (pBytes_any (c :: t) 1 g w h (by decide))
  have HLT := hid (show g < w.heap.size from Blk.lt h)
  have hI := fun wx : World => run_ix0 (P := Try.prog) (w := wx) Try.underlying9 ⟨[c].toArray⟩ .i64 c [] rfl
  obtain ⟨XC, hXC⟩ : ∃ S : ByteArray, S = ⟨[c].toArray⟩ := ⟨_, rfl⟩
  rw [show (⟨((c :: t).take 1).toArray⟩ : ByteArray) = XC from hXC.symm, show (c :: t).drop 1 = t from rfl] at HB
  rw [← hXC] at hI
  have hzI : (c.toNat : Int) ≤ 255 := by have := c.toNat_lt; omega
  have HO := hid ho
  have hmI : (M.length : Int) ≤ 64 := by omega
  have HGB := hid hgb
  unfold POne
  rw [Pat.onE_form hr hs (by rw [List.getD_eq_getElem?_getD, hx]; exact hx0)]
  have hrI : (c.toNat : Int) < (M.length : Int) := by omega
  have h3 : ((x : Int) != 0) = true := by rw [bne_iff_ne]; omega
  have h4 : ((x : Int) == 0) = false := by rw [beq_eq_false_iff_ne]; omega
  have HXX := hid hx
  clear h ho hM hXC hgb hr hx hx0
  generalize c.toNat = z at *
  go_enter Try.func95, Try.ntmps95
  go_wp2_with fail
  refine Calls.mono HB.out ?_
  rintro e w1 (⟨h1, _⟩ | ⟨_, rfl, hst, hb⟩)
  · exact absurd h1 (by simp)
  · have HBT := hid hb
    have HST := hid hst
    have HO1 := hid (own_but HO.out hb HGB.out)
    obtain ⟨A3, c3, rfl, hrd, _⟩ := Rd.owned HO1.out
    have HRD := hid hrd
    clear hb hst hrd
    obtain ⟨b1, o1, e1, l1, cc⟩ := HRD.out.num00 (Nat.lt_of_le_of_lt (Nat.zero_le _) (List.getElem?_eq_some_iff.1 HXX.out).1)
    cases e1
    have d0 := cc _ x HXX.out
    clear cc
    go_wp2
    go_returns
    exact ⟨rfl, HBT.out.two _, fun h => by cases h⟩
set_option maxHeartbeats 1000000 in
theorem pOne_vary (M : List Nat) (last : Int) (c : UInt8) (t : List UInt8) (g base wd : Nat) (v : Value) (w : World) (h : PRd g w (c :: t)) (hgb : g < base) (ho : w.ownsRow base 33 1 v M.length (u64s M)) (hM : M.length ≤ 64) (hr : ¬ M.length ≤ c.toNat) (hs : ¬ (c.toNat : Int) ≤ last) (hx : M[c.toNat]? = some 0) (hts : t.length ≤ 281474976710656) (a k e0 : Nat) (hrd : Vary.rd t = (a, k, e0)) (hk : k ≤ t.length) (he : e0 ≠ 0) :
    Calls Try.prog 95 #[.pointer (some ⟨g, 0, none⟩), v, .int .i64 wd, .int .i64 last] w (POne g base wd M last (c :: t) v w) := by
  have HB := hid (pBytes_any (c :: t) 1 g w h (by decide))
  have HLT := hid (show g < w.heap.size from Blk.lt h)
  have hI := fun wx : World => run_ix0 (P := Try.prog) (w := wx) Try.underlying9 ⟨[c].toArray⟩ .i64 c [] rfl
  obtain ⟨XC, hXC⟩ : ∃ S : ByteArray, S = ⟨[c].toArray⟩ := ⟨_, rfl⟩
  rw [show (⟨((c :: t).take 1).toArray⟩ : ByteArray) = XC from hXC.symm, show (c :: t).drop 1 = t from rfl] at HB
  rw [← hXC] at hI
  have hzI : (c.toNat : Int) ≤ 255 := by have := c.toNat_lt; omega
  have HO := hid ho
  have hmI : (M.length : Int) ≤ 64 := by omega
  have HGB := hid hgb
  unfold POne
  rw [Pat.onE_vary hr hs (by rw [List.getD_eq_getElem?_getD, hx]; rfl) hrd he]
  have hrI : (c.toNat : Int) < (M.length : Int) := by omega
  have HNU := hid (fun wx (h : PRd g wx t) => pNumber_any t g wx h hts a k e0 hrd hk)
  have h5 : ((e0 : Int) != 0) = true := by rw [bne_iff_ne]; omega
  have h6 : ((e0 : Int) == 0) = false := by rw [beq_eq_false_iff_ne]; omega
  have HE := hid he
  have HXX := hid hx
  clear h ho hM hXC hgb hr hx hrd he
  generalize c.toNat = z at *
  go_enter Try.func95, Try.ntmps95
  go_wp2_with fail
  refine Calls.mono HB.out ?_
  rintro e w1 (⟨h1, _⟩ | ⟨_, rfl, hst, hb⟩)
  · exact absurd h1 (by simp)
  · have HBT := hid hb
    have HST := hid hst
    have HO1 := hid (own_but HO.out hb HGB.out)
    obtain ⟨A3, c3, rfl, hrd, _⟩ := Rd.owned HO1.out
    have HRD := hid hrd
    clear hb hst hrd
    obtain ⟨b1, o1, e1, l1, cc⟩ := HRD.out.num00 (Nat.lt_of_le_of_lt (Nat.zero_le _) (List.getElem?_eq_some_iff.1 HXX.out).1)
    cases e1
    have d0 := cc _ 0 HXX.out
    clear cc
    go_wp2_with fail
    refine Calls.mono (HNU.out _ HST.out) ?_
    rintro e w2 ⟨rfl, hst2, hb2⟩
    have HBL := hid (HBT.out.next hb2)
    have HST2 := hid hst2
    have HO2 := hid (own_but HO1.out hb2 HGB.out)
    clear hst2 hb2
    go_wp2
    go_returns
    exact ⟨rfl, HBL.out.two _, fun h => absurd h HE.out⟩
set_option maxHeartbeats 1000000 in
theorem pOne_fits (M : List Nat) (last : Int) (c : UInt8) (t : List UInt8) (g base wd : Nat) (v : Value) (w : World) (h : PRd g w (c :: t)) (hgb : g < base) (ho : w.ownsRow base 33 1 v M.length (u64s M)) (hM : M.length ≤ 64) (hr : ¬ M.length ≤ c.toNat) (hs : ¬ (c.toNat : Int) ≤ last) (hx : M[c.toNat]? = some 0) (hts : t.length ≤ 281474976710656) (a k e0 : Nat) (hrd : Vary.rd t = (a, k, e0)) (hk : k ≤ t.length) (he : e0 = 0) (ha : a < 18446744073709551616) (hf : Lib.bitLen a ≤ wd) :
    Calls Try.prog 95 #[.pointer (some ⟨g, 0, none⟩), v, .int .i64 wd, .int .i64 last] w (POne g base wd M last (c :: t) v w) := by
  have HB := hid (pBytes_any (c :: t) 1 g w h (by decide))
  have HLT := hid (show g < w.heap.size from Blk.lt h)
  have hI := fun wx : World => run_ix0 (P := Try.prog) (w := wx) Try.underlying9 ⟨[c].toArray⟩ .i64 c [] rfl
  obtain ⟨XC, hXC⟩ : ∃ S : ByteArray, S = ⟨[c].toArray⟩ := ⟨_, rfl⟩
  rw [show (⟨((c :: t).take 1).toArray⟩ : ByteArray) = XC from hXC.symm, show (c :: t).drop 1 = t from rfl] at HB
  rw [← hXC] at hI
  have hzI : (c.toNat : Int) ≤ 255 := by have := c.toNat_lt; omega
  have HO := hid ho
  have hmI : (M.length : Int) ≤ 64 := by omega
  have HGB := hid hgb
  unfold POne
  rw [Pat.onE_fits hr hs (by rw [List.getD_eq_getElem?_getD, hx]; rfl) (by rw [hrd, he]) hf]
  have hrI : (c.toNat : Int) < (M.length : Int) := by omega
  have HNU := hid (fun wx (h : PRd g wx t) => pNumber_any t g wx h hts a k e0 hrd hk)
  subst he
  have COU := hid (fun wx => out_any a wd wx ha)
  rw [decide_eq_false (by omega)] at COU
  have haI : (a : Int) ≤ 18446744073709551615 := by omega
  have HXX := hid hx
  clear h ho hM hXC hgb hr hx hrd ha hf
  generalize c.toNat = z at *
  go_enter Try.func95, Try.ntmps95
  go_wp2_with fail
  refine Calls.mono HB.out ?_
  rintro e w1 (⟨h1, _⟩ | ⟨_, rfl, hst, hb⟩)
  · exact absurd h1 (by simp)
  · have HBT := hid hb
    have HST := hid hst
    have HO1 := hid (own_but HO.out hb HGB.out)
    obtain ⟨A3, c3, rfl, hrd, _⟩ := Rd.owned HO1.out
    have HRD := hid hrd
    clear hb hst hrd
    obtain ⟨b1, o1, e1, l1, cc⟩ := HRD.out.num00 (Nat.lt_of_le_of_lt (Nat.zero_le _) (List.getElem?_eq_some_iff.1 HXX.out).1)
    cases e1
    have d0 := cc _ 0 HXX.out
    clear cc
    go_wp2_with fail
    refine Calls.mono (HNU.out _ HST.out) ?_
    rintro e w2 ⟨rfl, hst2, hb2⟩
    have HBL := hid (HBT.out.next hb2)
    have HST2 := hid hst2
    have HO2 := hid (own_but HO1.out hb2 HGB.out)
    clear hst2 hb2
    go_wp2_with fail
    refine Calls.mono (COU.out _) ?_
    rintro e _ ⟨rfl, rfl⟩
    go_wp2
    go_returns
    exact ⟨rfl, HBL.out.two _, fun h => by cases h⟩
end Go.Proofs.Ytdblegdbfdhepaa
