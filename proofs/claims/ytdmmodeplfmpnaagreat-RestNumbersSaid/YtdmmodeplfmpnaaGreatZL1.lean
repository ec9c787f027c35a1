/- Texts of this claim, put together: walks and plain laws. -/
import Derived.Test.YtdmmodeplfmpnaaGreatZE1
import Derived.Test.YtdmmodeplfmpnaaGreatZP2
import Derived.Test.YtdmmodeplfmpnaaGreatZP1
import Derived.Test.YtdmmodeplfmpnaaGreatZD1
import Derived.Test.YtdmmodeplfmpnaaGreatZH1
import Derived.Test.YtdmmodeplfmpnaaGreatZB1
import Derived.Test.YtdmmodeplfmpnaaGreatZF1
import Derived.Test.YtdmmodeplfmpnaaGreatZV1
import Derived.Test.YtdmmodeplfmpnaaGreatZS1
section
namespace Hy.Cod
open Go
abbrev Tx := List UInt8
@[irreducible] def nm (l : List Nat) (way : Nat) : Tx :=
  if way = 1 then UInt8.ofNat (Bits.width l) :: Bits.packed l (Bits.width l)
  else if way = 2 then UInt8.ofNat (Bits.width l) :: Hyb.raw l (Bits.width l)
  else if way = 3 then Dlt.bys l else Pat.bys l
theorem nm1 (l : List Nat) : nm l 1 = UInt8.ofNat (Bits.width l) :: Bits.packed l (Bits.width l) := by unfold nm; rfl
theorem nm2 (l : List Nat) : nm l 2 = UInt8.ofNat (Bits.width l) :: Hyb.raw l (Bits.width l) := by unfold nm; rfl
theorem nm3 (l : List Nat) : nm l 3 = Dlt.bys l := by unfold nm; rfl
theorem nm4 (l : List Nat) : nm l 4 = Pat.bys l := by unfold nm; rfl
theorem width_fit (l : List Nat) (hl : ∀ x ∈ l, x < 18446744073709551616) : Bits.width l ≤ 64 ∧ ∀ x ∈ l, x < 2 ^ Bits.width l :=
  have h := Bits.width_le64 l hl
  ⟨h, (Bits.width_le_iff l _ hl h).1 (Nat.le_refl _)⟩
theorem size_b (n w : Nat) (hn : n ≤ 64) (hw : w ≤ 64) : Bits.size n w ≤ 512 := by
  unfold Bits.size
  have : n * w ≤ 64 * 64 := Nat.mul_le_mul hn hw
  omega
theorem raw_b (l : List Nat) (w : Nat) (hw : w ≤ 64) (hn : l.length ≤ 64) : (Hyb.raw l w).length ≤ 600 := by
  have h1 := Hyb.raw_len l w hw hn
  have h2 := size_b l.length w hn hw
  omega
theorem nm_len (l : List Nat) (way : Nat) (hn : l.length ≤ 64) (hl : ∀ x ∈ l, x < 18446744073709551616) : (nm l way).length ≤ 2000 := by
  obtain ⟨h1, h2⟩ := width_fit l hl
  unfold nm
  split
  · rw [List.length_cons, Bits.packed_len]
    have := size_b l.length _ hn h1
    omega
  · split
    · rw [List.length_cons]
      have := raw_b l _ h1 hn
      omega
    · split
      · cases l with
        | nil => rw [Dlt.bys_nil]; simp
        | cons x r =>
          rw [Dlt.bys_cons, List.length_append, List.length_append, Vary.wr_len]
          have h3 := Vary.beh_le8 x
          have h4 := (width_fit _ (Dlt.zs_lt (x :: r))).1
          have h5 := raw_b (Dlt.zs (x :: r)) _ h4 (by rw [Dlt.zs_len]; omega)
          simp only [List.length_cons, List.length_nil]
          omega
      · rw [Pat.bys_len, Vary.wr_len]
        have h3 := Vary.beh_le8 (Pat.bas l)
        have h4 := Pat.xt_le (Pat.bst (Pat.mor l) 64) (Pat.mor l)
        have h5 := size_b (Pat.mor l).length (Pat.bst (Pat.mor l) 64) (by rw [Pat.mor_len]; exact hn) (Pat.bst_le _ _)
        rw [Pat.mor_len] at h4 h5
        unfold Pat.cst
        rw [Pat.mor_len]
        omega
def lw (n : Nat) : Nat := if n = 0 then 0 else Lib.bitLen (n - 1)
theorem lw_zero : lw 0 = 0 := rfl
theorem lw_pos {n : Nat} (h : 0 < n) : lw n = Lib.bitLen (n - 1) := by unfold lw; rw [if_neg (by omega)]
theorem lw_width {n : Nat} (h : 0 < n) : lw n = Bits.width [n - 1] := by rw [lw_pos h]; simp [Bits.width]
theorem lw_le {n : Nat} (h : n ≤ 65) : lw n ≤ 7 := by
  unfold lw
  split
  · omega
  · rw [Bits.bitLen_le_iff _ _ (by omega) (by decide)]; omega
theorem lw_fit {n : Nat} (hn : n ≤ 65) (x : Nat) (h : x < n) : x < 2 ^ lw n := by
  rw [lw_pos (by omega)]
  have h1 : n - 1 < 2 ^ Lib.bitLen (n - 1) := (Bits.bitLen_le_iff _ _ (by omega) (by rw [← lw_pos (by omega)]; have := lw_le hn; omega)).1 (Nat.le_refl _)
  omega
@[irreducible] def pln (l : List Tx) : Tx := l.flatMap fun s => Vary.wr s.length ++ s
theorem pln_nil : pln [] = [] := by unfold pln; rfl
theorem pln_cons (s : Tx) (l : List Tx) : pln (s :: l) = Vary.wr s.length ++ s ++ pln l := by unfold pln; simp
theorem pln_snoc (l : List Tx) (s : Tx) : pln (l ++ [s]) = pln l ++ Vary.wr s.length ++ s := by unfold pln; simp
theorem pln_len (l : List Tx) (hl : ∀ s ∈ l, s.length ≤ 16) : (pln l).length ≤ 25 * l.length := by
  induction l with
  | nil => rw [pln_nil]; simp
  | cons s l ih =>
    have h1 := ih (fun t ht => hl t (by simp [ht]))
    have h2 := hl s (by simp)
    have h3 := Vary.beh_le8 s.length
    rw [pln_cons, List.length_append, List.length_append, Vary.wr_len, List.length_cons]
    omega
@[irreducible] def bok (l : List Tx) : Tx := Vary.wr (Dct.bk l).length ++ Bits.packed (Dct.cds l) (lw (Dct.bk l).length) ++ Front.bytes (Dct.bk l)
theorem bok_eq (l : List Tx) : bok l = Vary.wr (Dct.bk l).length ++ Bits.packed (Dct.cds l) (lw (Dct.bk l).length) ++ Front.bytes (Dct.bk l) := by unfold bok; rfl
theorem enc_len (l : List Tx) : ∀ last : Tx, (∀ s ∈ l, s.length ≤ 16) → (Front.enc last l).length ≤ 18 * l.length := by
  induction l with
  | nil => intro last _; simp [Front.enc]
  | cons s l ih =>
    intro last h
    have h1 := ih s (fun t ht => h t (by simp [ht]))
    have h2 := h s (by simp)
    have h3 := Front.one_len last s h2
    rw [Front.enc, List.length_append, List.length_cons]
    omega
theorem bytes_len (l : List Tx) (hl : ∀ s ∈ l, s.length ≤ 16) : (Front.bytes l).length ≤ 18 * l.length := by rw [Front.bytes_eq]; exact enc_len l [] hl
theorem bk_fit (l : List Tx) (hl : ∀ s ∈ l, s.length ≤ 16) : ∀ s ∈ Dct.bk l, s.length ≤ 16 := fun s hs => hl s (((Dct.bk_spec l).2 s).1 hs)
theorem cds_fit (l : List Tx) (hn : l.length ≤ 64) : ∀ x ∈ Dct.cds l, x < 2 ^ lw (Dct.bk l).length := fun x hx =>
  lw_fit (by have := Dct.bk_len l; omega) x (Dct.cds_lt l x hx)
theorem bok_len (l : List Tx) (hn : l.length ≤ 64) (hl : ∀ s ∈ l, s.length ≤ 16) : (bok l).length ≤ 1700 := by
  have h1 := Dct.bk_len l
  have h2 := bytes_len (Dct.bk l) (bk_fit l hl)
  have h3 := Vary.beh_le8 (Dct.bk l).length
  have h4 := lw_le (n := (Dct.bk l).length) (by omega)
  have h5 := size_b l.length (lw (Dct.bk l).length) hn (by omega)
  rw [bok_eq, List.length_append, List.length_append, Vary.wr_len, Bits.packed_len, Dct.cds_len]
  omega
@[irreducible] def tx (l : List Tx) (way : Nat) : Tx := if way = 5 then pln l else if way = 6 then bok l else Front.bytes l
theorem tx5 (l : List Tx) : tx l 5 = pln l := by unfold tx; rfl
theorem tx6 (l : List Tx) : tx l 6 = bok l := by unfold tx; rfl
theorem tx7 (l : List Tx) : tx l 7 = Front.bytes l := by unfold tx; rfl
theorem tx_len (l : List Tx) (way : Nat) (hn : l.length ≤ 64) (hl : ∀ s ∈ l, s.length ≤ 16) : (tx l way).length ≤ 2000 := by
  unfold tx
  split
  · have := pln_len l hl; omega
  · split
    · have := bok_len l hn hl; omega
    · have := bytes_len l hl; omega
def tg (f : Nat → Tx) (way : Nat) : Tx := UInt8.ofNat way :: f way
theorem tg_len (f : Nat → Tx) (way : Nat) : (tg f way).length = (f way).length + 1 := rfl
def up (f : Nat → Tx) (a : Nat) : Nat → Tx
  | 0 => tg f a
  | k + 1 => if (tg f (a + k + 1)).length < (up f a k).length then tg f (a + k + 1) else up f a k
theorem up_zero (f : Nat → Tx) (a : Nat) : up f a 0 = tg f a := rfl
theorem up_succ (f : Nat → Tx) (a k : Nat) : up f a (k + 1) = if (tg f (a + k + 1)).length < (up f a k).length then tg f (a + k + 1) else up f a k := rfl
theorem up_one (f : Nat → Tx) (a k : Nat) : ∃ j, j ≤ k ∧ up f a k = tg f (a + j) := by
  induction k with
  | zero => exact ⟨0, Nat.le_refl _, rfl⟩
  | succ k ih =>
    obtain ⟨j, hj, e⟩ := ih
    rw [up_succ]
    split
    · exact ⟨k + 1, Nat.le_refl _, rfl⟩
    · exact ⟨j, by omega, e⟩
theorem up_len (f : Nat → Tx) (a k m : Nat) (h : ∀ j, (f j).length ≤ m) : (up f a k).length ≤ m + 1 := by
  obtain ⟨j, _, e⟩ := up_one f a k
  rw [e, tg_len]
  have := h (a + j)
  omega
def nmb (l : List Nat) (way : Int) : Tx × Nat := if ¬ (1 ≤ way ∧ way ≤ 4) then ([], 7) else if 64 < l.length then ([], 2) else (tg (nm l) way.toNat, 0)
def bnm (l : List Nat) : Tx × Nat := if 64 < l.length then ([], 2) else (up (nm l) 1 3, 0)
def btx (l : List Tx) : Tx × Nat := if Dct.mny l = true then ([], 2) else (up (tx l) 5 2, 0)
/-! ### reading -/
@[irreducible] def wde (rd : Tx → Nat → List Nat × Nat) (s : Tx) : List Nat × Nat := match s with
  | [] => ([], 5)
  | c :: t => if (rd t c.toNat).2 ≠ 0 then ([], (rd t c.toNat).2) else if Bits.width (rd t c.toNat).1 ≠ c.toNat then ([], 1) else ((rd t c.toNat).1, 0)
section
variable {rd : Tx → Nat → List Nat × Nat} {c : UInt8} {t : Tx}
theorem wde_nil : wde rd [] = ([], 5) := by unfold wde; rfl
theorem wde_bad (h : (rd t c.toNat).2 ≠ 0) : wde rd (c :: t) = ([], (rd t c.toNat).2) := by unfold wde; simp only; rw [if_pos h]
theorem wde_form (h : (rd t c.toNat).2 = 0) (h2 : Bits.width (rd t c.toNat).1 ≠ c.toNat) : wde rd (c :: t) = ([], 1) := by unfold wde; simp only; rw [if_neg (by omega), if_pos h2]
theorem wde_ok (h : (rd t c.toNat).2 = 0) (h2 : Bits.width (rd t c.toNat).1 = c.toNat) : wde rd (c :: t) = ((rd t c.toNat).1, 0) := by unfold wde; simp only; rw [if_neg (by omega), if_neg (by omega)]
end
def rpk (many : Int) (t : Tx) (w : Nat) : List Nat × Nat := (Bits.up t many w, Bits.chk t many w)
def rhy (many : Int) (t : Tx) (w : Nat) : List Nat × Nat := Hyb.rdl t many w
@[irreducible] def rnm (s : Tx) (many : Int) : List Nat × Nat :=
  if many < 0 then ([], 3) else if 64 < many then ([], 2) else match s with
  | [] => ([], 5)
  | c :: t => if c.toNat = 1 then wde (rpk many) t else if c.toNat = 2 then wde (rhy many) t else if c.toNat = 3 then Dlt.rds t many else if c.toNat = 4 then Pat.rdP t many else ([], 7)
section
variable {s : Tx} {many : Int} {c : UInt8} {t : Tx}
theorem rnm_neg (h : many < 0) : rnm s many = ([], 3) := by unfold rnm; rw [if_pos h]
theorem rnm_many (h : 64 < many) : rnm s many = ([], 2) := by unfold rnm; rw [if_neg (by omega), if_pos h]
theorem rnm_nil (h : 0 ≤ many) (h2 : many ≤ 64) : rnm [] many = ([], 5) := by unfold rnm; rw [if_neg (by omega), if_neg (by omega)]
theorem rnm_cons (h : 0 ≤ many) (h2 : many ≤ 64) : rnm (c :: t) many = if c.toNat = 1 then wde (rpk many) t else if c.toNat = 2 then wde (rhy many) t else if c.toNat = 3 then Dlt.rds t many else if c.toNat = 4 then Pat.rdP t many else ([], 7) := by unfold rnm; rw [if_neg (by omega), if_neg (by omega)]
end
@[irreducible] def one (s : Tx) : Tx × Tx × Nat :=
  if (Vary.rd s).2.2 ≠ 0 then ([], [], (Vary.rd s).2.2) else if 16 < (Vary.rd s).1 then ([], [], 2) else if (s.drop (Vary.rd s).2.1).length < (Vary.rd s).1 then ([], [], 5)
  else ((s.drop (Vary.rd s).2.1).take (Vary.rd s).1, (s.drop (Vary.rd s).2.1).drop (Vary.rd s).1, 0)
section
variable {s : Tx} {n k e : Nat}
theorem one_bad (h : Vary.rd s = (n, k, e)) (he : e ≠ 0) : one s = ([], [], e) := by unfold one; rw [h, if_pos he]
theorem one_many (h : Vary.rd s = (n, k, 0)) (h2 : 16 < n) : one s = ([], [], 2) := by unfold one; rw [h, if_neg (by simp), if_pos h2]
theorem one_none (h : Vary.rd s = (n, k, 0)) (h2 : ¬ 16 < n) (h3 : (s.drop k).length < n) : one s = ([], [], 5) := by unfold one; rw [h, if_neg (by simp), if_neg h2, if_pos h3]
theorem one_ok (h : Vary.rd s = (n, k, 0)) (h2 : ¬ 16 < n) (h3 : ¬ (s.drop k).length < n) : one s = ((s.drop k).take n, (s.drop k).drop n, 0) := by unfold one; rw [h, if_neg (by simp), if_neg h2, if_neg h3]
end
def rpl : Nat → Tx → List Tx → List Tx × Nat
  | 0, s, o => if s = [] then (o, 0) else ([], 1)
  | q + 1, s, o => if (one s).2.2 ≠ 0 then ([], (one s).2.2) else rpl q (one s).2.1 (o ++ [(one s).1])
theorem rpl_bad {q : Nat} {s t r : Tx} {o : List Tx} {e : Nat} (h : one s = (t, r, e)) (he : e ≠ 0) : rpl (q + 1) s o = ([], e) := by simp [rpl, h, he]
theorem rpl_ok {q : Nat} {s t r : Tx} {o : List Tx} (h : one s = (t, r, 0)) : rpl (q + 1) s o = rpl q r (o ++ [t]) := by simp [rpl, h]
@[irreducible] def rbk (s : Tx) (many : Nat) : List Tx × Nat :=
  if (Vary.rd s).2.2 ≠ 0 then ([], (Vary.rd s).2.2) else if 64 < (Vary.rd s).1 then ([], 2)
  else if (s.drop (Vary.rd s).2.1).length < Bits.size many (lw (Vary.rd s).1) then ([], 5)
  else if Bits.chk ((s.drop (Vary.rd s).2.1).take (Bits.size many (lw (Vary.rd s).1))) many (lw (Vary.rd s).1) ≠ 0 then ([], Bits.chk ((s.drop (Vary.rd s).2.1).take (Bits.size many (lw (Vary.rd s).1))) many (lw (Vary.rd s).1))
  else if (Front.rdl ((s.drop (Vary.rd s).2.1).drop (Bits.size many (lw (Vary.rd s).1))) (Vary.rd s).1).2 ≠ 0 then ([], (Front.rdl ((s.drop (Vary.rd s).2.1).drop (Bits.size many (lw (Vary.rd s).1))) (Vary.rd s).1).2)
  else Dct.txt (Front.rdl ((s.drop (Vary.rd s).2.1).drop (Bits.size many (lw (Vary.rd s).1))) (Vary.rd s).1).1 (Bits.up ((s.drop (Vary.rd s).2.1).take (Bits.size many (lw (Vary.rd s).1))) many (lw (Vary.rd s).1))
section
variable {s r : Tx} {n k e many z : Nat}
theorem rbk_vary (h : Vary.rd s = (n, k, e)) (he : e ≠ 0) : rbk s many = ([], e) := by unfold rbk; rw [h, if_pos he]
theorem rbk_many (h : Vary.rd s = (n, k, 0)) (h2 : 64 < n) : rbk s many = ([], 2) := by unfold rbk; rw [h, if_neg (by simp), if_pos h2]
theorem rbk_none (h : Vary.rd s = (n, k, 0)) (h2 : ¬ 64 < n) (hr : s.drop k = r) (hz : Bits.size many (lw n) = z) (h3 : r.length < z) : rbk s many = ([], 5) := by unfold rbk; rw [h, if_neg (by simp), if_neg h2]; simp only [hr, hz]; rw [if_pos h3]
theorem rbk_chk (h : Vary.rd s = (n, k, 0)) (h2 : ¬ 64 < n) (hr : s.drop k = r) (hz : Bits.size many (lw n) = z) (h3 : ¬ r.length < z) (h4 : Bits.chk (r.take z) many (lw n) ≠ 0) : rbk s many = ([], Bits.chk (r.take z) many (lw n)) := by
  unfold rbk; rw [h, if_neg (by simp), if_neg h2]; simp only [hr, hz]; rw [if_neg h3, if_pos h4]
theorem rbk_front (h : Vary.rd s = (n, k, 0)) (h2 : ¬ 64 < n) (hr : s.drop k = r) (hz : Bits.size many (lw n) = z) (h3 : ¬ r.length < z) (h4 : Bits.chk (r.take z) many (lw n) = 0) (h5 : (Front.rdl (r.drop z) n).2 ≠ 0) : rbk s many = ([], (Front.rdl (r.drop z) n).2) := by
  unfold rbk; rw [h, if_neg (by simp), if_neg h2]; simp only [hr, hz]; rw [if_neg h3, if_neg (fun x => x h4), if_pos h5]
theorem rbk_ok (h : Vary.rd s = (n, k, 0)) (h2 : ¬ 64 < n) (hr : s.drop k = r) (hz : Bits.size many (lw n) = z) (h3 : ¬ r.length < z) (h4 : Bits.chk (r.take z) many (lw n) = 0) (h5 : (Front.rdl (r.drop z) n).2 = 0) : rbk s many = Dct.txt (Front.rdl (r.drop z) n).1 (Bits.up (r.take z) many (lw n)) := by
  unfold rbk; rw [h, if_neg (by simp), if_neg h2]; simp only [hr, hz]; rw [if_neg h3, if_neg (fun x => x h4), if_neg (fun x => x h5)]
end
@[irreducible] def rtx (s : Tx) (many : Int) : List Tx × Nat :=
  if many < 0 then ([], 3) else if 64 < many then ([], 2) else match s with
  | [] => ([], 5)
  | c :: t => if c.toNat = 5 then rpl many.toNat t [] else if c.toNat = 6 then rbk t many.toNat else if c.toNat = 7 then Front.rdl t many else ([], 7)
section
variable {s : Tx} {many : Int} {c : UInt8} {t : Tx}
theorem rtx_neg (h : many < 0) : rtx s many = ([], 3) := by unfold rtx; rw [if_pos h]
theorem rtx_many (h : 64 < many) : rtx s many = ([], 2) := by unfold rtx; rw [if_neg (by omega), if_pos h]
theorem rtx_nil (h : 0 ≤ many) (h2 : many ≤ 64) : rtx [] many = ([], 5) := by unfold rtx; rw [if_neg (by omega), if_neg (by omega)]
theorem rtx_cons (h : 0 ≤ many) (h2 : many ≤ 64) : rtx (c :: t) many = if c.toNat = 5 then rpl many.toNat t [] else if c.toNat = 6 then rbk t many.toNat else if c.toNat = 7 then Front.rdl t many else ([], 7) := by unfold rtx; rw [if_neg (by omega), if_neg (by omega)]
end
end Hy.Cod
end
section
namespace Hy.Cod
open Go
theorem byte_u8 (wb : Nat) (h : wb ≤ 255) : (#[Value.int .u8 (wb : Int)] : Array Value).toList = u8s [UInt8.ofNat wb] := by simp [u8s]; omega
theorem tg_str (f : Nat → Tx) (k : Nat) (s : ByteArray) (h : s = ⟨(f k).toArray⟩) : (⟨(UInt8.ofNat k :: s.data.toList).toArray⟩ : ByteArray) = ⟨(tg f k).toArray⟩ := by subst h; rfl
end Hy.Cod
namespace Go.Proofs.YtdmmodeplfmpnaaGreat
open Go.RowKit Hy
set_option maxRecDepth 100000 in
set_option maxHeartbeats 1600000 in
theorem wideB_any (l : List Nat) (A : Option Addr) (n cap : Nat) (w : World) (hn : l.length = n) (hr : Rd w A (u64s l)) (hl : ∀ x ∈ l, x < 18446744073709551616) (hnl : n ≤ 64) :
    Calls Tryz.prog 90 #[.slice A n cap, .func (.func 71) #[] #[]] w fun e w' => e = .returned (.string ⟨(UInt8.ofNat (Bits.width l) :: Bits.packed l (Bits.width l)).toArray⟩) ∧ Ext w w' := by
  have HW := hid (width_any l A n cap w hn hr hl (by omega))
  obtain ⟨h64, hfit⟩ := Cod.width_fit l hl
  have hlen : (Bits.packed l (Bits.width l)).length ≤ 600 := by rw [Bits.packed_len]; have := Cod.size_b l.length _ (by omega) h64; omega
  have HRW := hid (fun wx (hx : Ext w wx) => braw_any l A n cap (Bits.width l) wx hn (hr.keep hx) hfit hnl h64)
  obtain ⟨wb, hwb⟩ : ∃ wb, wb = Bits.width l := ⟨_, rfl⟩
  rw [← hwb] at HW h64 HRW hlen ⊢
  obtain ⟨X2b, hX2b⟩ : ∃ S : ByteArray, S = ⟨[UInt8.ofNat wb].toArray⟩ := ⟨_, rfl⟩
  obtain ⟨X3b, hX3b⟩ : ∃ S : ByteArray, S = ⟨(Bits.packed l wb).toArray⟩ := ⟨_, rfl⟩
  have hz2 : X2b.size = 1 := by rw [hX2b]; rfl
  have hz3 : X3b.size ≤ 600 := by rw [hX3b, str_size]; exact hlen
  have HVV := hid (show X2b ++ X3b = ⟨(UInt8.ofNat wb :: Bits.packed l wb).toArray⟩ by rw [hX2b, hX3b, str_app]; rfl)
  have HBB := hid hX2b
  rw [← hX3b] at HRW
  have HWB := hid (Cod.byte_u8 wb (by omega))
  have hwI : (wb : Int) ≤ 64 := by omega
  have hwu : IntKind.u8.wrap (wb : Int) = (wb : Int) := by rw [IntKind.wrap_u8]; omega
  clear hn hl hfit hlen hwb hX2b hX3b hr
  go_enter Tryz.func90, Tryz.ntmps90
  go_wp2_with fail
  refine Calls.mono HW.out ?_
  rintro e _ ⟨rfl, rfl⟩
  go_wp2
  refine wp_region_tree (.one 0 true (.one 1 true (.one 4 true (.one 5 true (.one 6 true (.two 2 7 (.two 3 7 (.one 7 false (.one 8 true (.one 9 true (.nil)))) (.one 3 false (.one 8 true (.one 9 true (.nil))))) (.one 2 false (.one 3 false (.one 8 true (.one 9 true (.nil))))))))))) (by kernel_rfl) (by kernel_rfl) (fun _ _ _ _ _ h => h) (by kernel_rfl) (by rfl) ?_
  simp only [fillT, List.getD_cons_zero, List.getD_cons_succ]
  have Y0 : Ext w w.drew := (ext_refl w).draw
  generalize w.drew = y0 at Y0 ⊢
  repeat (refine wpTO_val (by rfl) ?_; intro K hK; go_big_quiet_op; go_big_quiet_on)
  refine wpTO_two ?_ ?_
  · refine wpTO_do (by rfl) ?_
    intro K hK
    go_simp
    have HRB := rd_lit (w := y0) (g := (y0 : World).heap.size) (C := #[.int .u8 (wb : Int)]) (e := 5) (fz := (0, 0)) (cs := u8s [UInt8.ofNat wb]) rfl HWB.out
    have Y1 := Ext.new Y0 (.cells #[.int .u8 (wb : Int)] 5)
    refine hK _ _ Y1 ?_
    clear K hK
    refine wpTO_two ?_ ?_
    · refine wpTO_do (by rfl) ?_
      intro K hK
      have hcv := run_str_rd (P := Tryz.prog) (src := 72) (dst := 9) (e := 5) Tryz.underlying72 Tryz.underlying5 Tryz.underlying9 _ 1 1 [UInt8.ofNat wb] rfl HRB (fun h => by cases h)
      rw [← HBB.out] at hcv
      go_simp
      refine hK _ _ Y1 ?_
      clear K hK hcv
      refine wpTO_do (by rfl) ?_
      intro K hK
      go_simp
      refine Calls.mono (HRW.out _ Y1) ?_
      rintro e y2 ⟨rfl, hx⟩
      have Y2 := Ext.then Y1 hx
      replace HRB := Rd.keep HRB hx
      refine hK _ _ Y2 ?_
      clear K hK hx
      repeat (refine wpTO_val (by rfl) ?_; intro K hK; go_big_quiet_op; go_big_quiet_on)
      refine wpTO_nil ?_
      have XE := hid Y2
      go_wp2
      go_returns
      exact ⟨by rw [← HVV.out]; rfl, XE.out⟩
    · refine wpTO_do (by rfl) ?_
      intro K hK
      go_simp
      refine Calls.mono (HRW.out _ Y1) ?_
      rintro e y3 ⟨rfl, hx⟩
      have Y3 := Ext.then Y1 hx
      replace HRB := Rd.keep HRB hx
      refine hK _ _ Y3 ?_
      clear K hK hx
      refine wpTO_do (by rfl) ?_
      intro K hK
      have hcv := run_str_rd (P := Tryz.prog) (src := 72) (dst := 9) (e := 5) Tryz.underlying72 Tryz.underlying5 Tryz.underlying9 _ 1 1 [UInt8.ofNat wb] rfl HRB (fun h => by cases h)
      rw [← HBB.out] at hcv
      go_simp
      refine hK _ _ Y3 ?_
      clear K hK hcv
      repeat (refine wpTO_val (by rfl) ?_; intro K hK; go_big_quiet_op; go_big_quiet_on)
      refine wpTO_nil ?_
      have XE := hid Y3
      go_wp2
      go_returns
      exact ⟨by rw [← HVV.out]; rfl, XE.out⟩
  · refine wpTO_do (by rfl) ?_
    intro K hK
    go_simp
    refine Calls.mono (HRW.out _ Y0) ?_
    rintro e y4 ⟨rfl, hx⟩
    have Y4 := Ext.then Y0 hx
    refine hK _ _ Y4 ?_
    clear K hK hx
    refine wpTO_do (by rfl) ?_
    intro K hK
    go_simp
    have HRB := rd_lit (w := y4) (g := (y4 : World).heap.size) (C := #[.int .u8 (wb : Int)]) (e := 5) (fz := (0, 0)) (cs := u8s [UInt8.ofNat wb]) rfl HWB.out
    have Y5 := Ext.new Y4 (.cells #[.int .u8 (wb : Int)] 5)
    refine hK _ _ Y5 ?_
    clear K hK
    refine wpTO_do (by rfl) ?_
    intro K hK
    have hcv := run_str_rd (P := Tryz.prog) (src := 72) (dst := 9) (e := 5) Tryz.underlying72 Tryz.underlying5 Tryz.underlying9 _ 1 1 [UInt8.ofNat wb] rfl HRB (fun h => by cases h)
    rw [← HBB.out] at hcv
    go_simp
    refine hK _ _ Y5 ?_
    clear K hK hcv
    repeat (refine wpTO_val (by rfl) ?_; intro K hK; go_big_quiet_op; go_big_quiet_on)
    refine wpTO_nil ?_
    have XE := hid Y5
    go_wp2
    go_returns
    exact ⟨by rw [← HVV.out]; rfl, XE.out⟩
set_option maxRecDepth 100000 in
set_option maxHeartbeats 1600000 in
theorem wideH_any (l : List Nat) (A : Option Addr) (n cap : Nat) (w : World) (hn : l.length = n) (hr : Rd w A (u64s l)) (hl : ∀ x ∈ l, x < 18446744073709551616) (hnl : n ≤ 64) (hcap : n ≤ cap) :
    Calls Tryz.prog 90 #[.slice A n cap, .func (.func 91) #[] #[]] w fun e w' => e = .returned (.string ⟨(UInt8.ofNat (Bits.width l) :: Hyb.raw l (Bits.width l)).toArray⟩) ∧ Ext w w' := by
  have HW := hid (width_any l A n cap w hn hr hl (by omega))
  obtain ⟨h64, hfit⟩ := Cod.width_fit l hl
  have hlen : (Hyb.raw l (Bits.width l)).length ≤ 600 := by exact Cod.raw_b l _ h64 (by omega)
  have HRW := hid (fun wx (hx : Ext w wx) => hyRaw_any l A n cap (Bits.width l) wx hn (hr.keep hx) hcap hnl hfit h64)
  obtain ⟨wb, hwb⟩ : ∃ wb, wb = Bits.width l := ⟨_, rfl⟩
  rw [← hwb] at HW h64 HRW hlen ⊢
  obtain ⟨X2b, hX2b⟩ : ∃ S : ByteArray, S = ⟨[UInt8.ofNat wb].toArray⟩ := ⟨_, rfl⟩
  obtain ⟨X3b, hX3b⟩ : ∃ S : ByteArray, S = ⟨(Hyb.raw l wb).toArray⟩ := ⟨_, rfl⟩
  have hz2 : X2b.size = 1 := by rw [hX2b]; rfl
  have hz3 : X3b.size ≤ 600 := by rw [hX3b, str_size]; exact hlen
  have HVV := hid (show X2b ++ X3b = ⟨(UInt8.ofNat wb :: Hyb.raw l wb).toArray⟩ by rw [hX2b, hX3b, str_app]; rfl)
  have HBB := hid hX2b
  rw [← hX3b] at HRW
  have HWB := hid (Cod.byte_u8 wb (by omega))
  have hwI : (wb : Int) ≤ 64 := by omega
  have hwu : IntKind.u8.wrap (wb : Int) = (wb : Int) := by rw [IntKind.wrap_u8]; omega
  clear hn hl hfit hlen hwb hX2b hX3b hr
  go_enter Tryz.func90, Tryz.ntmps90
  go_wp2_with fail
  refine Calls.mono HW.out ?_
  rintro e _ ⟨rfl, rfl⟩
  go_wp2
  refine wp_region_tree (.one 0 true (.one 1 true (.one 4 true (.one 5 true (.one 6 true (.two 2 7 (.two 3 7 (.one 7 false (.one 8 true (.one 9 true (.nil)))) (.one 3 false (.one 8 true (.one 9 true (.nil))))) (.one 2 false (.one 3 false (.one 8 true (.one 9 true (.nil))))))))))) (by kernel_rfl) (by kernel_rfl) (fun _ _ _ _ _ h => h) (by kernel_rfl) (by rfl) ?_
  simp only [fillT, List.getD_cons_zero, List.getD_cons_succ]
  have Y0 : Ext w w.drew := (ext_refl w).draw
  generalize w.drew = y0 at Y0 ⊢
  repeat (refine wpTO_val (by rfl) ?_; intro K hK; go_big_quiet_op; go_big_quiet_on)
  refine wpTO_two ?_ ?_
  · refine wpTO_do (by rfl) ?_
    intro K hK
    go_simp
    have HRB := rd_lit (w := y0) (g := (y0 : World).heap.size) (C := #[.int .u8 (wb : Int)]) (e := 5) (fz := (0, 0)) (cs := u8s [UInt8.ofNat wb]) rfl HWB.out
    have Y1 := Ext.new Y0 (.cells #[.int .u8 (wb : Int)] 5)
    refine hK _ _ Y1 ?_
    clear K hK
    refine wpTO_two ?_ ?_
    · refine wpTO_do (by rfl) ?_
      intro K hK
      have hcv := run_str_rd (P := Tryz.prog) (src := 72) (dst := 9) (e := 5) Tryz.underlying72 Tryz.underlying5 Tryz.underlying9 _ 1 1 [UInt8.ofNat wb] rfl HRB (fun h => by cases h)
      rw [← HBB.out] at hcv
      go_simp
      refine hK _ _ Y1 ?_
      clear K hK hcv
      refine wpTO_do (by rfl) ?_
      intro K hK
      go_simp
      refine Calls.mono (HRW.out _ Y1) ?_
      rintro e y2 ⟨rfl, hx⟩
      have Y2 := Ext.then Y1 hx
      replace HRB := Rd.keep HRB hx
      refine hK _ _ Y2 ?_
      clear K hK hx
      repeat (refine wpTO_val (by rfl) ?_; intro K hK; go_big_quiet_op; go_big_quiet_on)
      refine wpTO_nil ?_
      have XE := hid Y2
      go_wp2
      go_returns
      exact ⟨by rw [← HVV.out]; rfl, XE.out⟩
    · refine wpTO_do (by rfl) ?_
      intro K hK
      go_simp
      refine Calls.mono (HRW.out _ Y1) ?_
      rintro e y3 ⟨rfl, hx⟩
      have Y3 := Ext.then Y1 hx
      replace HRB := Rd.keep HRB hx
      refine hK _ _ Y3 ?_
      clear K hK hx
      refine wpTO_do (by rfl) ?_
      intro K hK
      have hcv := run_str_rd (P := Tryz.prog) (src := 72) (dst := 9) (e := 5) Tryz.underlying72 Tryz.underlying5 Tryz.underlying9 _ 1 1 [UInt8.ofNat wb] rfl HRB (fun h => by cases h)
      rw [← HBB.out] at hcv
      go_simp
      refine hK _ _ Y3 ?_
      clear K hK hcv
      repeat (refine wpTO_val (by rfl) ?_; intro K hK; go_big_quiet_op; go_big_quiet_on)
      refine wpTO_nil ?_
      have XE := hid Y3
      go_wp2
      go_returns
      exact ⟨by rw [← HVV.out]; rfl, XE.out⟩
  · refine wpTO_do (by rfl) ?_
    intro K hK
    go_simp
    refine Calls.mono (HRW.out _ Y0) ?_
    rintro e y4 ⟨rfl, hx⟩
    have Y4 := Ext.then Y0 hx
    refine hK _ _ Y4 ?_
    clear K hK hx
    refine wpTO_do (by rfl) ?_
    intro K hK
    go_simp
    have HRB := rd_lit (w := y4) (g := (y4 : World).heap.size) (C := #[.int .u8 (wb : Int)]) (e := 5) (fz := (0, 0)) (cs := u8s [UInt8.ofNat wb]) rfl HWB.out
    have Y5 := Ext.new Y4 (.cells #[.int .u8 (wb : Int)] 5)
    refine hK _ _ Y5 ?_
    clear K hK
    refine wpTO_do (by rfl) ?_
    intro K hK
    have hcv := run_str_rd (P := Tryz.prog) (src := 72) (dst := 9) (e := 5) Tryz.underlying72 Tryz.underlying5 Tryz.underlying9 _ 1 1 [UInt8.ofNat wb] rfl HRB (fun h => by cases h)
    rw [← HBB.out] at hcv
    go_simp
    refine hK _ _ Y5 ?_
    clear K hK hcv
    repeat (refine wpTO_val (by rfl) ?_; intro K hK; go_big_quiet_op; go_big_quiet_on)
    refine wpTO_nil ?_
    have XE := hid Y5
    go_wp2
    go_returns
    exact ⟨by rw [← HVV.out]; rfl, XE.out⟩
theorem tagged_any (k : Nat) (s : ByteArray) (w : World) (hk : k < 256) (hs : s.size ≤ 3000) :
    Calls Tryz.prog 35 #[.int .i64 k, .string s] w fun e w' => e = .returned (.string ⟨(UInt8.ofNat k :: s.data.toList).toArray⟩) ∧ Ext w w' := by
  have hst := run_str1 (P := Tryz.prog) Tryz.underlying72 Tryz.underlying5 Tryz.underlying9 k hk w
  have hv : (⟨#[UInt8.ofNat k]⟩ : ByteArray) ++ s = ⟨(UInt8.ofNat k :: s.data.toList).toArray⟩ := by
    conv => lhs; rhs; rw [← str_self s]
    rw [str_cons]
  have HV := hid hv
  have hz : (⟨#[UInt8.ofNat k]⟩ : ByteArray).size = 1 := rfl
  generalize (⟨#[UInt8.ofNat k]⟩ : ByteArray) = B at *
  have hkI : (k : Int) < 256 := by omega
  clear hk hv
  go_enter Tryz.func35, Tryz.ntmps35
  go_wp2
  go_returns
  exact ⟨by rw [← HV.out]; rfl, (ext_refl _).new _⟩
theorem lastWidth_any (n : Nat) (w : World) (hn : n ≤ 65) :
    Calls Tryz.prog 106 #[.int .i64 n] w fun e w' => e = .returned (.int .i64 (Cod.lw n : Nat)) ∧ Ext w w' := by
  cases n with
  | zero =>
    rw [Cod.lw_zero]
    go_enter Tryz.func106, Tryz.ntmps106
    go_wp2
    go_returns
    exact ⟨rfl, ext_refl _⟩
  | succ m =>
    rw [Cod.lw_width (by omega), Nat.add_sub_cancel]
    have hm : ((m + 1 : Nat) : Int) - 1 = (m : Int) := by omega
    have hmI : (m : Int) ≤ 64 := by omega
    have hz : (((m + 1 : Nat) : Int) == 0) = false := by rw [beq_eq_false_iff_ne]; omega
    have hwu : IntKind.u64.wrap (m : Int) = (m : Int) := by rw [IntKind.wrap_u64]; omega
    have HW := hid (fun A wx (h : Rd wx A (u64s [m])) => width_any [m] A 1 1 wx rfl h (by intro x hx; rw [List.mem_singleton] at hx; omega) (by decide))
    have hrd := rd_lit (w := w) (g := w.heap.size) (C := #[.int .u64 (m : Int)]) (e := 39) (fz := (0, 0)) (cs := u64s [m]) rfl rfl
    have HRD := hid hrd
    clear hn hrd
    generalize ((m + 1 : Nat) : Int) = q at *

    go_enter Tryz.func106, Tryz.ntmps106
    go_wp2_with fail
    refine Calls.mono (HW.out _ _ HRD.out) ?_
    rintro e _ ⟨rfl, rfl⟩
    go_wp2
    go_returns
    exact ⟨rfl, (ext_refl _).new _⟩
theorem isNumbers_any (k : Int) (w : World) :
    Calls Tryz.prog 34 #[.int .i64 k] w fun e w' => e = .returned (.bool (decide (1 ≤ k ∧ k ≤ 4))) ∧ w = w' := by
  go_enter Tryz.func34, Tryz.ntmps34
  go_wp2
  all_goals go_returns
  all_goals exact ⟨ret_bool (by simp at *; try omega), rfl⟩
theorem isTexts_any (k : Int) (w : World) :
    Calls Tryz.prog 52 #[.int .i64 k] w fun e w' => e = .returned (.bool (decide (5 ≤ k ∧ k ≤ 7))) ∧ w = w' := by
  go_enter Tryz.func52, Tryz.ntmps52
  go_wp2
  all_goals go_returns
  all_goals exact ⟨ret_bool (by simp at *; try omega), rfl⟩
theorem numbers_any (l : List Nat) (A : Option Addr) (n cap k : Nat) (w : World) (hn : l.length = n) (hr : Rd w A (u64s l)) (hcap : n ≤ cap) (hl : ∀ x ∈ l, x < 18446744073709551616) (hnl : n ≤ 64) (h1 : 1 ≤ k) (h4 : k ≤ 4) :
    Calls Tryz.prog 36 #[.slice A n cap, .int .i64 k] w fun e w' => e = .returned (.string ⟨(Cod.nm l k).toArray⟩) ∧ Ext w w' := by
  have H1 := hid (wideB_any l A n cap w hn hr hl hnl)
  have H2 := hid (wideH_any l A n cap w hn hr hl hnl hcap)
  have H3 := hid (dWrite_any l A n cap w hn hr hcap hl (by omega))
  have H4 := hid (pWrite_any l A n cap w hn hr hl (by omega))
  have hd : Dlt.wrt l = (Dlt.bys l, 0) := by unfold Dlt.wrt; rw [if_neg (by omega)]
  have hp : Pat.wrt l = (Pat.bys l, 0) := by unfold Pat.wrt; rw [if_neg (by omega)]
  rw [hd] at H3
  rw [hp] at H4
  rw [← Cod.nm1] at H1
  rw [← Cod.nm2] at H2
  simp only [← Cod.nm3] at H3
  simp only [← Cod.nm4] at H4
  clear hn hr hcap hl hnl hd hp
  obtain rfl | rfl | rfl | rfl : k = 1 ∨ k = 2 ∨ k = 3 ∨ k = 4 := by omega
  all_goals
    clear h1 h4
    go_enter Tryz.func36, Tryz.ntmps36
    go_wp2_with fail
  · refine Calls.mono H1.out ?_
    rintro e w1 ⟨rfl, hx⟩
    go_wp2
    go_returns
    exact ⟨rfl, hx⟩
  · refine Calls.mono H2.out ?_
    rintro e w1 ⟨rfl, hx⟩
    go_wp2
    go_returns
    exact ⟨rfl, hx⟩
  · refine Calls.mono H3.out ?_
    rintro e w1 ⟨rfl, hx⟩
    go_wp2
    go_returns
    exact ⟨rfl, hx⟩
  · refine Calls.mono H4.out ?_
    rintro e w1 ⟨rfl, hx⟩
    go_wp2
    go_returns
    exact ⟨rfl, hx⟩
set_option maxHeartbeats 800000 in
theorem bestN_any (l : List Nat) (A : Option Addr) (n cap : Nat) (w : World) (hn : l.length = n) (hr : Rd w A (u64s l)) (hcap : n ≤ cap) (hl : ∀ x ∈ l, x < 18446744073709551616) (hnl : n ≤ 64) :
    Calls Tryz.prog 37 #[.slice A n cap, .int .i64 1, .int .i64 4, .func (.func 36) #[] #[]] w fun e w' => e = .returned (.string ⟨(Cod.up (Cod.nm l) 1 3).toArray⟩) ∧ Ext w w' := by
  have HC := hid (fun (k : Nat) (h1 : 1 ≤ k) (h4 : k ≤ 4) wx (hx : Ext w wx) => numbers_any l A n cap k wx hn (hr.keep hx) hcap hl hnl h1 h4)
  have HLN := hid (fun k => Cod.nm_len l k (by omega) hl)
  have HT := hid (fun (k : Nat) (hk : k ≤ 4) wx => tagged_any k ⟨(Cod.nm l k).toArray⟩ wx (by omega) (by rw [str_size]; have := HLN.out k; omega))
  have HUP := hid (fun j => Cod.up_len (Cod.nm l) 1 j 2000 HLN.out)
  have HS0 := hid (Cod.up_zero (Cod.nm l) 1)
  have HSS := hid (fun j => Cod.up_succ (Cod.nm l) 1 j)
  have HTG := hid (fun k => Cod.tg_str (Cod.nm l) k ⟨(Cod.nm l k).toArray⟩ rfl)
  have HTL := hid (fun k => Cod.tg_len (Cod.nm l) k)
  generalize Cod.nm l = f at *
  clear hn hr hcap hl hnl
  go_enter Tryz.func37, Tryz.ntmps37
  go_wp2_with fail
  refine Calls.mono (HC.out 1 (by decide) (by decide) _ (ext_refl _)) ?_
  rintro e w1 ⟨rfl, hx⟩
  have X1 := hid hx
  clear hx
  go_wp2_with fail
  refine Calls.mono (HT.out 1 (by decide) _) ?_
  rintro e w2 ⟨rfl, hx⟩
  have X2 := hid (X1.out.then hx)
  clear hx
  rw [HTG.out, ← HS0.out]
  go_wp2
  go_loopw [9, 10, 11] (fun v c _ wr => ∃ j : Nat, j ≤ 3 ∧ c = .int .i64 ((j : Int) + 2) ∧ v = .string ⟨(Cod.up f 1 j).toArray⟩ ∧ Hid (Ext w wr)) (fun _ c _ _ => 4 + 1 - (intOf c).toNat)
  case atStart => exact ⟨0, Nat.zero_le _, rfl, rfl, X2⟩
  case round =>
    obtain ⟨j, hj, rfl, rfl, HX⟩ := hrel
    by_cases hlt : j < 3
    · have hc1 : (j : Int) + 2 = ((1 + j + 1 : Nat) : Int) := by omega
      have hjI : ((1 + j + 1 : Nat) : Int) ≤ 4 := by omega
      have C1 := hid (HC.out (1 + j + 1) (by omega) (by omega))
      have C2 := hid (HT.out (1 + j + 1) (by omega))
      have G2 := hid (HTG.out (1 + j + 1))
      have U1 := hid (HSS.out j)
      have l1 := HUP.out j
      have l2 := HLN.out (1 + j + 1)
      have l3 := HTL.out (1 + j + 1)
      have hn1 : ((1 + j + 1 : Nat) : Int) + 1 = ((j + 1 : Nat) : Int) + 2 := by omega
      rw [hc1]
      obtain ⟨S, hS⟩ : ∃ S : ByteArray, S = ⟨(f (1 + j + 1)).toArray⟩ := ⟨_, rfl⟩
      obtain ⟨G, hG⟩ : ∃ S : ByteArray, S = ⟨(Cod.tg f (1 + j + 1)).toArray⟩ := ⟨_, rfl⟩
      obtain ⟨U, hU⟩ : ∃ S : ByteArray, S = ⟨(Cod.up f 1 j).toArray⟩ := ⟨_, rfl⟩
      have HGU := hid hG
      have HUU := hid hU
      have g1 : G.size = (Cod.tg f (1 + j + 1)).length := by rw [hG, str_size]
      have g2 : U.size = (Cod.up f 1 j).length := by rw [hU, str_size]
      have g3 : G.size ≤ 2001 := by omega
      have g4 : U.size ≤ 2001 := by omega
      rw [← hS] at C1
      rw [← hS] at C2
      rw [← hG] at G2
      rw [← hU]
      rw [← g1, ← g2] at U1
      have hwr : IntKind.i64.wrap (((1 + j + 1 : Nat) : Int) + 1) = ((1 + j + 1 : Nat) : Int) + 1 := by rw [IntKind.wrap_i64]; omega
      have HJ := hid (show j + 1 ≤ 3 by omega)
      have HN1 := hid hn1
      clear hS hG hU g1 g2 l1 l2 l3 hc1 hn1 hj
      generalize ((1 + j + 1 : Nat) : Int) = q at *
      by_cases hs : G.size < U.size
      · have hsI : (G.size : Int) < (U.size : Int) := by omega
        rw [if_pos hs] at U1
        clear hs
        go_wp2_with fail
        refine Calls.mono (C1.out _ HX.out) ?_
        rintro e w3 ⟨rfl, hx⟩
        have X3 := hid (HX.out.then hx)
        clear hx
        go_wp2_with fail
        refine Calls.mono (C2.out _) ?_
        rintro e w4 ⟨rfl, hx⟩
        have X4 := hid (X3.out.then hx)
        clear hx
        rw [G2.out]
        go_wp2
        go_roundw
        case rel => exact ⟨j + 1, HJ.out, by rw [HN1.out], by rw [U1.out, ← HGU.out], X4⟩
        case measure => simp [intOf]; have := HN1.out; have := HJ.out; omega
      · have hsI : ¬ (G.size : Int) < (U.size : Int) := by omega
        rw [if_neg hs] at U1
        clear hs
        go_wp2_with fail
        refine Calls.mono (C1.out _ HX.out) ?_
        rintro e w3 ⟨rfl, hx⟩
        have X3 := hid (HX.out.then hx)
        clear hx
        go_wp2_with fail
        refine Calls.mono (C2.out _) ?_
        rintro e w4 ⟨rfl, hx⟩
        have X4 := hid (X3.out.then hx)
        clear hx
        rw [G2.out]
        go_wp2
        go_roundw
        case rel => exact ⟨j + 1, HJ.out, by rw [HN1.out], by rw [U1.out, ← HUU.out], X4⟩
        case measure => simp [intOf]; have := HN1.out; have := HJ.out; omega
    · obtain rfl : j = 3 := by omega
      have hne : ¬ (((3 : Nat) : Int) + 2 ≤ 4) := by decide
      clear hlt hj
      go_wp2
      go_returns
      exact ⟨rfl, HX.out⟩
theorem bestNumbers_any (l : List Nat) (A : Option Addr) (n cap : Nat) (w : World) (hn : l.length = n) (hr : Rd w A (u64s l)) (hcap : n ≤ cap) (hl : ∀ x ∈ l, x < 18446744073709551616) (hnl : n ≤ 9223372036854775806) :
    Calls Tryz.prog 13 #[.slice A n cap] w fun e w' => e = .returned (.tuple #[.string ⟨(Cod.bnm l).1.toArray⟩, .int .i64 ((Cod.bnm l).2 : Nat)]) ∧ Ext w w' := by
  unfold Cod.bnm
  rw [hn]
  by_cases h64 : 64 < n
  · rw [if_pos h64]
    have hI : (64 : Int) < (n : Int) := by omega
    clear hn hr hcap hl hnl h64
    go_enter Tryz.func13, Tryz.ntmps13
    go_wp2
    go_returns
    exact ⟨rfl, ext_refl _⟩
  · rw [if_neg h64]
    have HC := hid (bestN_any l A n cap w hn hr hcap hl (by omega))
    have hI : ¬ (64 : Int) < (n : Int) := by omega
    clear hn hr hcap hl hnl h64
    go_enter Tryz.func13, Tryz.ntmps13
    go_wp2_with fail
    refine Calls.mono HC.out ?_
    rintro e w1 ⟨rfl, hx⟩
    have X1 := hid hx
    clear hx
    go_wp2
    go_returns
    exact ⟨rfl, X1.out⟩
end Go.Proofs.YtdmmodeplfmpnaaGreat
end
section
namespace Go.Proofs.YtdmmodeplfmpnaaGreat
open Go.RowKit Hy
theorem cNumbers_any (l : List Nat) (A : Option Addr) (n cap : Nat) (way : Int) (w : World) (hn : l.length = n) (hr : Rd w A (u64s l)) (hcap : n ≤ cap) (hl : ∀ x ∈ l, x < 18446744073709551616) (hnl : n ≤ 9223372036854775806) :
    Calls Tryz.prog 12 #[.slice A n cap, .int .i64 way] w fun e w' => e = .returned (.tuple #[.string ⟨(Cod.nmb l way).1.toArray⟩, .int .i64 ((Cod.nmb l way).2 : Nat)]) ∧ Ext w w' := by
  unfold Cod.nmb
  have C1 := hid (isNumbers_any way w)
  by_cases hw : 1 ≤ way ∧ way ≤ 4
  · rw [if_neg (fun h => h hw), decide_eq_true hw] at *
    obtain ⟨k, rfl⟩ := Int.eq_ofNat_of_zero_le (show 0 ≤ way by omega)
    rw [hn]
    by_cases h64 : 64 < n
    · rw [if_pos h64]
      have hI : (64 : Int) < (n : Int) := by omega
      clear hn hr hcap hl hnl h64 hw
      go_enter Tryz.func12, Tryz.ntmps12
      go_wp2_with fail
      refine Calls.mono C1.out ?_
      rintro e _ ⟨rfl, rfl⟩
      go_wp2
      go_returns
      exact ⟨rfl, ext_refl _⟩
    · rw [if_neg h64, Int.toNat_natCast]
      have HC := hid (numbers_any l A n cap k w hn hr hcap hl (by omega) (by omega) (by omega))
      have hln := Cod.nm_len l k (by omega) hl
      have HT := hid (fun wx => tagged_any k ⟨(Cod.nm l k).toArray⟩ wx (by omega) (by rw [str_size]; omega))
      have HTG := hid (Cod.tg_str (Cod.nm l) k ⟨(Cod.nm l k).toArray⟩ rfl)
      rw [HTG.out] at HT
      have hI : ¬ (64 : Int) < (n : Int) := by omega
      clear hn hr hcap hl hnl h64 hw hln HTG
      go_enter Tryz.func12, Tryz.ntmps12
      go_wp2_with fail
      refine Calls.mono C1.out ?_
      rintro e _ ⟨rfl, rfl⟩
      go_wp2_with fail
      refine Calls.mono HC.out ?_
      rintro e w1 ⟨rfl, hx⟩
      have X1 := hid hx
      clear hx
      go_wp2_with fail
      refine Calls.mono (HT.out _) ?_
      rintro e w2 ⟨rfl, hx⟩
      have X2 := hid (X1.out.then hx)
      clear hx
      go_wp2
      go_returns
      exact ⟨rfl, X2.out⟩
  · rw [if_pos hw, decide_eq_false hw] at *
    clear hn hr hcap hl hnl hw
    go_enter Tryz.func12, Tryz.ntmps12
    go_wp2_with fail
    refine Calls.mono C1.out ?_
    rintro e _ ⟨rfl, rfl⟩
    go_wp2
    go_returns
    exact ⟨rfl, ext_refl _⟩
end Go.Proofs.YtdmmodeplfmpnaaGreat
end
section
namespace Hy.Cod
open Go
theorem mny_of {l : List Tx} (h1 : l.length ≤ 64) (h2 : ∀ s ∈ l, s.length ≤ 16) : Dct.mny l = false := by
  unfold Dct.mny
  rw [Bool.or_eq_false_iff, decide_eq_false_iff_not, List.any_eq_false]
  exact ⟨by omega, fun s hs => by have := h2 s hs; simp; omega⟩
end Hy.Cod
end
section
namespace Hy.Cod
open Go
theorem pln_at (l : List Tx) (k : Nat) (h : k < l.length) : pln (l.take (k + 1)) = pln (l.take k) ++ Vary.wr l[k].length ++ l[k] := by
  rw [List.take_succ_eq_append_getElem h, pln_snoc]
theorem pln_le (l : List Tx) (k : Nat) (hl : ∀ s ∈ l, s.length ≤ 16) : (pln (l.take k)).length ≤ 25 * k := by
  have := pln_len (l.take k) (fun s hs => hl s (List.mem_of_mem_take hs))
  rw [List.length_take] at this
  omega
end Hy.Cod
namespace Go.Proofs.YtdmmodeplfmpnaaGreat
open Go.RowKit Hy
theorem cLong1_any (s : ByteArray) (w : World) : Calls Tryz.prog 121 #[.string s] w fun e w' => e = .returned (.bool (decide (16 < s.size))) ∧ w = w' := by
  have hI : decide ((16 : Int) < (s.size : Int)) = decide (16 < s.size) := by simp; omega
  have HI := hid hI
  clear hI
  go_enter Tryz.func121, Tryz.ntmps121
  go_wp2
  go_returns
  exact ⟨ret_bool HI.out, rfl⟩
set_option maxHeartbeats 400000 in
theorem cIndexFunc_any (l : List (List UInt8)) (A : Option Addr) (n cap : Nat) (w : World) (hn : l.length = n) (hr : Rd w A (txs l)) (hnl : n ≤ 140737488355328) :
    Calls Tryz.prog 147 #[.slice A n cap, .func (.func 121) #[] #[]] w fun e w' => (∃ r : Int, e = .returned (.int .i64 r) ∧ decide (0 ≤ r) = !Front.fitB l) ∧ w = w' := by
  have HN := hid hn
  have HA := hid hr
  have HF := hid (Front.fitB_iff l)
  clear hr hn
  go_enter Tryz.func147, Tryz.ntmps147
  go_wp2
  go_loop [5, 8] (fun _ c => ∃ k : Nat, k ≤ n ∧ c = .int .i64 k ∧ Hid (∀ i (h : i < l.length), i < k → l[i].length ≤ 16)) (fun _ c => n - (intOf c).toNat)
  case atStart => exact ⟨0, Nat.zero_le _, rfl, hid fun i h h2 => absurd h2 (Nat.not_lt_zero _)⟩
  case round =>
    obtain ⟨k, hk, rfl, HT⟩ := hrel
    by_cases hlt : k < n
    · have hka : k < l.length := by rw [HN.out]; exact hlt
      obtain ⟨b1, o1, e1, l1, c1⟩ := HA.out.texts k hka
      subst e1
      have d1 := c1 k hka
      obtain ⟨S, hS⟩ : ∃ S : ByteArray, S = ⟨l[k].toArray⟩ := ⟨_, rfl⟩
      have hz : S.size = l[k].length := by rw [hS, str_size]
      rw [← hS] at d1
      have HZ := hid hz
      clear c1 hS hz
      by_cases h16 : S.size ≤ 16
      · have HT2 : Hid (∀ i (h : i < l.length), i < k + 1 → l[i].length ≤ 16) := hid fun i h h2 => by
          rcases Nat.lt_or_ge i k with h3 | h3
          · exact HT.out i h h3
          · have : i = k := by omega
            subst this
            rw [← HZ.out]; exact h16
        have C : Hid (Calls Tryz.prog 121 #[.string S] w fun e w' => e = .returned (.bool false) ∧ w = w') := by
          have := cLong1_any S w
          rw [decide_eq_false (by omega)] at this
          exact hid this
        clear HZ hka h16
        go_wp2_with (go_at_call 121; refine C.out.mono ?_; rintro e w2 ⟨rfl, rfl⟩)
        go_round
        case rel => exact ⟨k + 1, by omega, by go_num, HT2⟩
        case measure => simp [intOf]; omega
      · have hf : Front.fitB l = false := by
          rw [← Bool.not_eq_true, HF.out]
          intro h
          have := h l[k] (List.getElem_mem hka)
          rw [← HZ.out] at this; omega
        have HFF := hid hf
        have C : Hid (Calls Tryz.prog 121 #[.string S] w fun e w' => e = .returned (.bool true) ∧ w = w') := by
          have := cLong1_any S w
          rw [decide_eq_true (by omega)] at this
          exact hid this
        clear HZ hka h16 hf
        go_wp2_with (go_at_call 121; refine C.out.mono ?_; rintro e w2 ⟨rfl, rfl⟩)
        go_returns
        exact ⟨⟨_, rfl, by rw [HFF.out]; simp⟩, rfl⟩
    · obtain rfl : k = n := by omega
      have hf : Front.fitB l = true := HF.out.2 fun s hs => by
        obtain ⟨i, hi, rfl⟩ := List.getElem_of_mem hs
        exact HT.out i hi (by rw [← HN.out]; exact hi)
      have HFF := hid hf
      clear hf
      go_wp2
      go_returns
      exact ⟨⟨_, rfl, by rw [HFF.out]; rfl⟩, rfl⟩
theorem cContainsFunc_any (l : List (List UInt8)) (A : Option Addr) (n cap : Nat) (w : World) (hn : l.length = n) (hr : Rd w A (txs l)) (hnl : n ≤ 140737488355328) :
    Calls Tryz.prog 120 #[.slice A n cap, .func (.func 121) #[] #[]] w fun e w' => e = .returned (.bool (!Front.fitB l)) ∧ w = w' := by
  have C := hid (cIndexFunc_any l A n cap w hn hr hnl)
  clear hn hr
  go_enter Tryz.func120, Tryz.ntmps120
  go_wp2_with (go_at_call 147; refine C.out.mono ?_; rintro e w2 ⟨⟨r, rfl, hr⟩, rfl⟩; have HR := hid hr; clear hr)
  go_returns
  exact ⟨by rw [← HR.out]; rfl, rfl⟩
theorem cLong_any (l : List (List UInt8)) (A : Option Addr) (n cap : Nat) (w : World) (hn : l.length = n) (hr : Rd w A (txs l)) (hnl : n ≤ 140737488355328) :
    Calls Tryz.prog 75 #[.slice A n cap] w fun e w' => e = .returned (.bool (Dct.mny l)) ∧ w = w' := by
  have C := hid (cContainsFunc_any l A n cap w hn hr hnl)
  have HM := hid (Dct.mny_eq l)
  rw [hn] at HM
  rw [HM.out]
  by_cases h64 : n ≤ 64
  · have h64I : (n : Int) ≤ 64 := by omega
    rw [decide_eq_true h64]
    clear hn hr hnl HM h64
    generalize Front.fitB l = f at *
    go_enter Tryz.func75, Tryz.ntmps75
    go_wp2_with fail
    refine Calls.mono C.out ?_
    rintro e _ ⟨rfl, rfl⟩
    go_wp2
    go_returns
    exact ⟨by simp; intro h; omega, rfl⟩
  · have h64I : (64 : Int) < (n : Int) := by omega
    rw [decide_eq_false h64]
    clear hn hr hnl HM h64 C
    go_enter Tryz.func75, Tryz.ntmps75
    go_wp2
    go_returns
    exact ⟨rfl, rfl⟩
set_option maxRecDepth 100000 in
set_option maxHeartbeats 1600000 in
theorem texts_any (l : List (List UInt8)) (A : Option Addr) (n cap k : Nat) (w : World) (hn : l.length = n) (hr : Rd w A (txs l)) (hf : ∀ s ∈ l, s.length ≤ 16) (hnl : n ≤ 64) (h1 : 5 ≤ k) (h4 : k ≤ 7) :
    Calls Tryz.prog 76 #[.slice A n cap, .int .i64 k] w fun e w' => e = .returned (.string ⟨(Cod.tx l k).toArray⟩) ∧ Ext w w' := by
  have hfb := (Front.fitB_iff l).2 hf
  obtain rfl | rfl | rfl : k = 5 ∨ k = 6 ∨ k = 7 := by omega
  · rw [Cod.tx5, show ((5 : Nat) : Int) = 5 from rfl]
    have HN := hid hn
    have HA := hid hr
    have HF := hid hf
    have HPA := hid (Cod.pln_at l)
    have HPL := hid (fun j => Cod.pln_le l j hf)
    have HPE := hid (Cod.pln_nil)
    have HNL := hid hnl
    clear hn hr hf hfb h1 h4 hnl
    go_enter Tryz.func76, Tryz.ntmps76
    go_wp2
    go_loopw [5, 7, 16] (fun v _ c wr => ∃ (k : Nat) (E : List UInt8), k ≤ n ∧ c = .int .i64 k ∧ Hid (E = Cod.pln (l.take k)) ∧ E.length ≤ 25 * k ∧ Hid (wr.ownsRow w.heap.size 5 1 v E.length (u8s E)) ∧ Hid (Ext w wr)) (fun _ _ c _ => n - (intOf c).toNat)
    case atStart => exact ⟨0, [], Nat.zero_le _, rfl, hid (by rw [List.take_zero, HPE.out]), Nat.le_refl _, hid (World.ownsRow_nil _ _ _ _), hid (ext_refl _)⟩
    case round =>
      obtain ⟨k, E, hk, rfl, HE, hE, HO, HX⟩ := hrel
      by_cases hlt : k < n
      · have hka : k < l.length := by rw [HN.out]; exact hlt
        obtain ⟨b1, o1, e1, l1, c1⟩ := HA.out.texts k hka
        subst e1
        have d1 := (HX.out.cell (p := ⟨b1, o1 + k, none⟩) l1).trans (c1 k hka)
        have hx := HF.out l[k] (List.getElem_mem hka)
        have HS := HPA.out k hka
        have hle := HPL.out (k + 1)
        rw [HS, ← HE.out] at hle
        rw [← HE.out] at HS
        generalize l[k] = s at *
        obtain ⟨S, hS⟩ : ∃ S : ByteArray, S = ⟨s.toArray⟩ := ⟨_, rfl⟩
        have hSz : S.size = s.length := by rw [hS, str_size]
        have hSI : (S.size : Int) ≤ 16 := by omega
        have hwu : IntKind.u64.wrap (S.size : Int) = (S.size : Int) := by rw [IntKind.wrap_u64]; omega
        obtain ⟨p1, hp1⟩ : ∃ p1, p1 = Vary.wr s.length := ⟨_, rfl⟩
        have CW := hid (fun wx => write_any s.length wx (by omega))
        rw [← hp1, ← hSz] at CW
        rw [← hp1] at HS hle
        have HSV := hid (fun wx => show Src Tryz.prog 1 9 (.string S) s.length (u8s s) wx from by rw [hS]; exact Src.ofList Tryz.underlying9 s)
        have hp1l : p1.length ≤ 9 := by rw [hp1, Vary.wr_len]; have := Vary.beh_le8 s.length; omega
        simp only [List.length_append] at hle
        rw [← hS] at d1
        have HSS := hid HS
        have HKL := hid hle
        have hk64 := HNL.out
        clear c1 HS hS hp1 hSz hka
        go_wp2_with (first
          | (go_at_call 70; refine Calls.mono (CW.out _) ?_; rintro e w2 ⟨rfl, hx2⟩; have HB2 := hid (HX.out.then hx2); have HO2 := hid (own_ext HO.out hx2); clear hx2)
          | (at_builtin; refine wpList_app rfl (.tmp 20) (.tmp 24) rowU8 rfl _ E.length _ rfl HO2.out _ p1.length (u8s p1) rfl (Src.ofList Tryz.underlying9 p1) (by unfold maxLen; omega) (by omega) HB2.out.size ?_; intro v3 w3 hown3 hg3 ha3 hb3; have HB3 : Hid (Ext w w3) := hid (HB2.out.trans hb3); have HO3 := hid hown3; clear hown3 hg3 ha3 hb3)
          | (at_builtin; refine wpList_app rfl (.tmp 25) (.tmp 26) rowU8 rfl _ (E.length + p1.length) _ rfl HO3.out _ s.length (u8s s) rfl (HSV.out _) (by unfold maxLen; omega) (by omega) HB3.out.size ?_; intro v5 w5 hown5 hg5 ha5 hb5; have HB5 : Hid (Ext w w5) := hid (HB3.out.trans hb5); have HO5 := hid hown5; clear hown5 hg5 ha5 hb5))
        go_roundw
        case rel =>
          refine ⟨k + 1, E ++ p1 ++ s, by omega, by go_num, hid HSS.out.symm, by simp only [List.length_append]; exact HKL.out, hid ?_, HB5⟩
          simp only [List.length_append, u8s_app]; exact HO5.out
        case measure => simp [intOf]; omega
      · obtain rfl : k = n := by omega
        have hs := run_str_own (w := wr) Tryz.underlying72 Tryz.underlying5 Tryz.underlying9 HO.out
        have HE2 := hid (show E = Cod.pln l by rw [HE.out, List.take_of_length_le (by rw [HN.out]; exact Nat.le_refl _)])
        go_wp2
        go_returns
        exact ⟨by rw [← HE2.out]; rfl, HX.out⟩
  · have hlen := Cod.tx_len l 6 (by omega) hf
    rw [Cod.tx6, Cod.bok_eq] at hlen ⊢
    simp only [List.length_append] at hlen
    have HO := hid (dOf_any l A n cap w hn hr (fun e => by subst e; rcases Nat.eq_zero_or_pos n with h | h; exact h; obtain ⟨_, _, h2, _⟩ := hr (by rw [txs_len]; omega); cases h2) (by omega))
    rw [Dct.of_ok (Cod.mny_of (by omega) hf)] at HO
    simp only at HO
    have hbl := Dct.bk_len l
    have hcl := Dct.cds_len l
    have hcf := Cod.cds_fit l (by omega)
    have hbf := Cod.bk_fit l hf
    obtain ⟨B, hB⟩ : ∃ B, B = Dct.bk l := ⟨_, rfl⟩
    obtain ⟨C, hC⟩ : ∃ C, C = Dct.cds l := ⟨_, rfl⟩
    rw [← hB] at HO hbl hbf hlen ⊢
    rw [← hB] at hcf
    rw [← hC] at HO hcl hcf hlen ⊢
    obtain ⟨b, hb⟩ : ∃ b, b = B.length := ⟨_, rfl⟩
    rw [← hb] at HO hbl hcf hlen ⊢
    have hlw := Cod.lw_le (n := b) (by omega)
    have HL := hid (fun wx => lastWidth_any b wx (by omega))
    have HV := hid (fun wx => write_any b wx (by omega))
    have HR := hid (fun A c wx h => braw_any C A n c (Cod.lw b) wx (by rw [hcl, hn]) h hcf (by omega) (by omega))
    have HFR := hid (fun A c wx h => raw_any B A b c wx hb.symm h (by omega) ((Front.fitB_iff B).2 hbf))
    obtain ⟨lwb, hlwb⟩ : ∃ q, q = Cod.lw b := ⟨_, rfl⟩
    rw [← hlwb] at HL HR hlen ⊢
    obtain ⟨X1, hX1⟩ : ∃ S : ByteArray, S = ⟨(Vary.wr b).toArray⟩ := ⟨_, rfl⟩
    obtain ⟨X2, hX2⟩ : ∃ S : ByteArray, S = ⟨(Bits.packed C lwb).toArray⟩ := ⟨_, rfl⟩
    obtain ⟨X3, hX3⟩ : ∃ S : ByteArray, S = ⟨(Front.bytes B).toArray⟩ := ⟨_, rfl⟩
    have hz1 : X1.size ≤ 2000 := by rw [hX1, str_size]; omega
    have hz2 : X2.size ≤ 2000 := by rw [hX2, str_size]; omega
    have hz3 : X3.size ≤ 2000 := by rw [hX3, str_size]; omega
    have HVV := hid (show X1 ++ X2 ++ X3 = ⟨(Vary.wr b ++ Bits.packed C lwb ++ Front.bytes B).toArray⟩ by rw [hX1, hX2, hX3, str_app, str_app])
    rw [← hX1] at HV
    rw [← hX2] at HR
    rw [← hX3] at HFR
    have HCL := hid (show C.length = n by rw [hcl, hn])
    have hbI : (b : Int) ≤ 64 := by omega
    have hwu : IntKind.u64.wrap (b : Int) = (b : Int) := by rw [IntKind.wrap_u64]; omega
    clear hn hr hf hfb h1 h4 hnl hlen hbl hcl hcf hbf hB hC hb hlw hlwb hX1 hX2 hX3
    go_enter Tryz.func76, Tryz.ntmps76
    go_wp2_with fail
    refine Calls.mono HO.out ?_
    rintro e w1 ⟨B1, cb, C1, cc, rfl, hrb, hrc, hx⟩
    have HRB := hid hrb
    have HRC := hid hrc
    have Xp := hid hx
    clear hrb hrc hx
    rw [HCL.out]
    go_wp2_with fail
    refine Calls.mono (HV.out _) ?_
    rintro e w2 ⟨rfl, hx⟩
    replace Xp := hid (Xp.out.then hx)
    replace HRB := hid (HRB.out.keep hx)
    replace HRC := hid (HRC.out.keep hx)
    clear hx
    go_wp2_with fail
    refine Calls.mono (HL.out _) ?_
    rintro e w3 ⟨rfl, hx⟩
    replace Xp := hid (Xp.out.then hx)
    replace HRB := hid (HRB.out.keep hx)
    replace HRC := hid (HRC.out.keep hx)
    clear hx
    go_wp2_with fail
    refine Calls.mono (HR.out _ _ _ HRC.out) ?_
    rintro e w4 ⟨rfl, hx⟩
    replace Xp := hid (Xp.out.then hx)
    replace HRB := hid (HRB.out.keep hx)
    clear hx
    go_wp2_with fail
    refine Calls.mono (HFR.out _ _ _ HRB.out) ?_
    rintro e w5 ⟨rfl, hx⟩
    replace Xp := hid (Xp.out.then hx)
    clear hx
    go_wp2
    go_returns
    exact ⟨by rw [← HVV.out]; rfl, Xp.out⟩
  · rw [Cod.tx7]
    have HC := hid (raw_any l A n cap w hn hr hnl hfb)
    clear hn hr hf hfb h1 h4 hnl
    go_enter Tryz.func76, Tryz.ntmps76
    go_wp2_with fail
    refine Calls.mono HC.out ?_
    rintro e w1 ⟨rfl, hx⟩
    go_wp2
    go_returns
    exact ⟨rfl, hx⟩
set_option maxHeartbeats 800000 in
theorem bestT_any (l : List (List UInt8)) (A : Option Addr) (n cap : Nat) (w : World) (hn : l.length = n) (hr : Rd w A (txs l)) (hf : ∀ s ∈ l, s.length ≤ 16) (hnl : n ≤ 64) :
    Calls Tryz.prog 77 #[.slice A n cap, .int .i64 5, .int .i64 7, .func (.func 76) #[] #[]] w fun e w' => e = .returned (.string ⟨(Cod.up (Cod.tx l) 5 2).toArray⟩) ∧ Ext w w' := by
  have HC := hid (fun (k : Nat) (h1 : 5 ≤ k) (h4 : k ≤ 7) wx (hx : Ext w wx) => texts_any l A n cap k wx hn (hr.keep hx) hf hnl h1 h4)
  have HLN := hid (fun k => Cod.tx_len l k (by omega) hf)
  have HT := hid (fun (k : Nat) (hk : k ≤ 7) wx => tagged_any k ⟨(Cod.tx l k).toArray⟩ wx (by omega) (by rw [str_size]; have := HLN.out k; omega))
  have HUP := hid (fun j => Cod.up_len (Cod.tx l) 5 j 2000 HLN.out)
  have HS0 := hid (Cod.up_zero (Cod.tx l) 5)
  have HSS := hid (fun j => Cod.up_succ (Cod.tx l) 5 j)
  have HTG := hid (fun k => Cod.tg_str (Cod.tx l) k ⟨(Cod.tx l k).toArray⟩ rfl)
  have HTL := hid (fun k => Cod.tg_len (Cod.tx l) k)
  generalize Cod.tx l = f at *
  clear hn hr hf hnl
  go_enter Tryz.func77, Tryz.ntmps77
  go_wp2_with fail
  refine Calls.mono (HC.out 5 (by decide) (by decide) _ (ext_refl _)) ?_
  rintro e w1 ⟨rfl, hx⟩
  have X1 := hid hx
  clear hx
  go_wp2_with fail
  refine Calls.mono (HT.out 5 (by decide) _) ?_
  rintro e w2 ⟨rfl, hx⟩
  have X2 := hid (X1.out.then hx)
  clear hx
  rw [HTG.out, ← HS0.out]
  go_wp2
  go_loopw [9, 10, 11] (fun v c _ wr => ∃ j : Nat, j ≤ 2 ∧ c = .int .i64 ((j : Int) + 6) ∧ v = .string ⟨(Cod.up f 5 j).toArray⟩ ∧ Hid (Ext w wr)) (fun _ c _ _ => 7 + 1 - (intOf c).toNat)
  case atStart => exact ⟨0, Nat.zero_le _, rfl, rfl, X2⟩
  case round =>
    obtain ⟨j, hj, rfl, rfl, HX⟩ := hrel
    by_cases hlt : j < 2
    · have hc1 : (j : Int) + 6 = ((5 + j + 1 : Nat) : Int) := by omega
      have hjI : ((5 + j + 1 : Nat) : Int) ≤ 7 := by omega
      have C1 := hid (HC.out (5 + j + 1) (by omega) (by omega))
      have C2 := hid (HT.out (5 + j + 1) (by omega))
      have G2 := hid (HTG.out (5 + j + 1))
      have U1 := hid (HSS.out j)
      have l1 := HUP.out j
      have l2 := HLN.out (5 + j + 1)
      have l3 := HTL.out (5 + j + 1)
      have hn1 : ((5 + j + 1 : Nat) : Int) + 1 = ((j + 1 : Nat) : Int) + 6 := by omega
      rw [hc1]
      obtain ⟨S, hS⟩ : ∃ S : ByteArray, S = ⟨(f (5 + j + 1)).toArray⟩ := ⟨_, rfl⟩
      obtain ⟨G, hG⟩ : ∃ S : ByteArray, S = ⟨(Cod.tg f (5 + j + 1)).toArray⟩ := ⟨_, rfl⟩
      obtain ⟨U, hU⟩ : ∃ S : ByteArray, S = ⟨(Cod.up f 5 j).toArray⟩ := ⟨_, rfl⟩
      have HGU := hid hG
      have HUU := hid hU
      have g1 : G.size = (Cod.tg f (5 + j + 1)).length := by rw [hG, str_size]
      have g2 : U.size = (Cod.up f 5 j).length := by rw [hU, str_size]
      have g3 : G.size ≤ 2001 := by omega
      have g4 : U.size ≤ 2001 := by omega
      rw [← hS] at C1
      rw [← hS] at C2
      rw [← hG] at G2
      rw [← hU]
      rw [← g1, ← g2] at U1
      have hwr : IntKind.i64.wrap (((5 + j + 1 : Nat) : Int) + 1) = ((5 + j + 1 : Nat) : Int) + 1 := by rw [IntKind.wrap_i64]; omega
      have HJ := hid (show j + 1 ≤ 2 by omega)
      have HN1 := hid hn1
      clear hS hG hU g1 g2 l1 l2 l3 hc1 hn1 hj
      generalize ((5 + j + 1 : Nat) : Int) = q at *
      by_cases hs : G.size < U.size
      · have hsI : (G.size : Int) < (U.size : Int) := by omega
        rw [if_pos hs] at U1
        clear hs
        go_wp2_with fail
        refine Calls.mono (C1.out _ HX.out) ?_
        rintro e w3 ⟨rfl, hx⟩
        have X3 := hid (HX.out.then hx)
        clear hx
        go_wp2_with fail
        refine Calls.mono (C2.out _) ?_
        rintro e w4 ⟨rfl, hx⟩
        have X4 := hid (X3.out.then hx)
        clear hx
        rw [G2.out]
        go_wp2
        go_roundw
        case rel => exact ⟨j + 1, HJ.out, by rw [HN1.out], by rw [U1.out, ← HGU.out], X4⟩
        case measure => simp [intOf]; have := HN1.out; have := HJ.out; omega
      · have hsI : ¬ (G.size : Int) < (U.size : Int) := by omega
        rw [if_neg hs] at U1
        clear hs
        go_wp2_with fail
        refine Calls.mono (C1.out _ HX.out) ?_
        rintro e w3 ⟨rfl, hx⟩
        have X3 := hid (HX.out.then hx)
        clear hx
        go_wp2_with fail
        refine Calls.mono (C2.out _) ?_
        rintro e w4 ⟨rfl, hx⟩
        have X4 := hid (X3.out.then hx)
        clear hx
        rw [G2.out]
        go_wp2
        go_roundw
        case rel => exact ⟨j + 1, HJ.out, by rw [HN1.out], by rw [U1.out, ← HUU.out], X4⟩
        case measure => simp [intOf]; have := HN1.out; have := HJ.out; omega
    · obtain rfl : j = 2 := by omega
      have hne : ¬ (((2 : Nat) : Int) + 6 ≤ 7) := by decide
      clear hlt hj
      go_wp2
      go_returns
      exact ⟨rfl, HX.out⟩
theorem bestTexts_any (l : List (List UInt8)) (A : Option Addr) (n cap : Nat) (w : World) (hn : l.length = n) (hr : Rd w A (txs l)) (hnl : n ≤ 140737488355328) :
    Calls Tryz.prog 28 #[.slice A n cap] w fun e w' => e = .returned (.tuple #[.string ⟨(Cod.btx l).1.toArray⟩, .int .i64 ((Cod.btx l).2 : Nat)]) ∧ Ext w w' := by
  unfold Cod.btx
  have CL := hid (cLong_any l A n cap w hn hr hnl)
  by_cases hm : Dct.mny l = true
  · rw [if_pos hm]
    rw [hm] at CL
    clear hn hr hnl hm
    go_enter Tryz.func28, Tryz.ntmps28
    go_wp2_with fail
    refine Calls.mono CL.out ?_
    rintro e _ ⟨rfl, rfl⟩
    go_wp2
    go_returns
    exact ⟨rfl, ext_refl _⟩
  · rw [if_neg hm]
    obtain ⟨g1, g2⟩ := Dct.mny_false (by simpa using hm)
    rw [show Dct.mny l = false by simpa using hm] at CL
    have HC := hid (bestT_any l A n cap w hn hr g2 (by omega))
    clear hn hr hnl hm g1 g2
    go_enter Tryz.func28, Tryz.ntmps28
    go_wp2_with fail
    refine Calls.mono CL.out ?_
    rintro e _ ⟨rfl, rfl⟩
    go_wp2_with fail
    refine Calls.mono HC.out ?_
    rintro e w1 ⟨rfl, hx⟩
    have X1 := hid hx
    clear hx
    go_wp2
    go_returns
    exact ⟨rfl, X1.out⟩
end Go.Proofs.YtdmmodeplfmpnaaGreat
end
section
namespace Hy.Cod
open Go
theorem rpk_lt (many : Int) (t : Tx) (w : Nat) : (∀ x ∈ (rpk many t w).1, x < 18446744073709551616) ∧ (rpk many t w).1.length ≤ 64 := by
  show (∀ x ∈ Bits.up t many w, x < _) ∧ (Bits.up t many w).length ≤ 64
  by_cases h : Bits.chk t many w = 0
  · rw [Bits.up_ok _ _ _ h]
    obtain ⟨h1, h2, h3, h4, _⟩ := Bits.chk_ok h
    refine ⟨fun x hx => ?_, by rw [Bits.unp_len]; omega⟩
    have := Bits.unp_lt _ _ _ x hx
    have h5 : 2 ^ (w : Int).toNat ≤ 2 ^ 64 := Nat.pow_le_pow_right (by decide) (by omega)
    omega
  · rw [Bits.up_bad _ _ _ h]; simp
theorem rhy_lt (many : Int) (t : Tx) (w : Nat) : (∀ x ∈ (rhy many t w).1, x < 18446744073709551616) ∧ (rhy many t w).1.length ≤ 64 :=
  ⟨Hyb.rdl_lt t many w, Hyb.rdl_len t many w⟩
@[irreducible] def wy (lo hi : Nat) (s : Tx) (many : Int) : Nat × Tx × Nat :=
  if many < 0 then (0, [], 3) else if 64 < many then (0, [], 2) else match s with
  | [] => (0, [], 5)
  | c :: t => if lo ≤ c.toNat ∧ c.toNat ≤ hi then (c.toNat, t, 0) else (0, [], 7)
section
variable {lo hi : Nat} {s t : Tx} {c : UInt8} {many : Int}
theorem wy_neg (h : many < 0) : wy lo hi s many = (0, [], 3) := by unfold wy; rw [if_pos h]
theorem wy_many (h : 64 < many) : wy lo hi s many = (0, [], 2) := by unfold wy; rw [if_neg (by omega), if_pos h]
theorem wy_nil (h : 0 ≤ many) (h2 : many ≤ 64) : wy lo hi [] many = (0, [], 5) := by unfold wy; rw [if_neg (by omega), if_neg (by omega)]
theorem wy_ok (h : 0 ≤ many) (h2 : many ≤ 64) (h3 : lo ≤ c.toNat ∧ c.toNat ≤ hi) : wy lo hi (c :: t) many = (c.toNat, t, 0) := by unfold wy; rw [if_neg (by omega), if_neg (by omega)]; simp only; rw [if_pos h3]
theorem wy_kind (h : 0 ≤ many) (h2 : many ≤ 64) (h3 : ¬ (lo ≤ c.toNat ∧ c.toNat ≤ hi)) : wy lo hi (c :: t) many = (0, [], 7) := by unfold wy; rw [if_neg (by omega), if_neg (by omega)]; simp only; rw [if_neg h3]
theorem wy_cases (lo hi : Nat) (s : Tx) (many : Int) : (∃ e, wy lo hi s many = (0, [], e) ∧ 0 < e ∧ e ≤ 7) ∨ (∃ c t, s = c :: t ∧ wy lo hi s many = (c.toNat, t, 0) ∧ lo ≤ c.toNat ∧ c.toNat ≤ hi ∧ 0 ≤ many ∧ many ≤ 64) := by
  by_cases h1 : many < 0
  · exact .inl ⟨_, wy_neg h1, by decide, by decide⟩
  · by_cases h2 : 64 < many
    · exact .inl ⟨_, wy_many h2, by decide, by decide⟩
    · cases s with
      | nil => exact .inl ⟨_, wy_nil (by omega) (by omega), by decide, by decide⟩
      | cons c t =>
        by_cases h3 : lo ≤ c.toNat ∧ c.toNat ≤ hi
        · exact .inr ⟨c, t, rfl, wy_ok (by omega) (by omega) h3, h3.1, h3.2, by omega, by omega⟩
        · exact .inl ⟨_, wy_kind (by omega) (by omega) h3, by decide, by decide⟩
end
theorem rnm_err {s : Tx} {many : Int} {e : Nat} (_he : 0 < e) (h : wy 1 4 s many = (0, [], e)) : rnm s many = ([], e) := by
  by_cases h1 : many < 0
  · rw [wy_neg h1] at h; rw [rnm_neg h1]; simp at h; rw [← h]
  · by_cases h2 : 64 < many
    · rw [wy_many h2] at h; rw [rnm_many h2]; simp at h; rw [← h]
    · cases s with
      | nil => rw [wy_nil (by omega) (by omega)] at h; rw [rnm_nil (by omega) (by omega)]; simp at h; rw [← h]
      | cons c t =>
        by_cases h3 : 1 ≤ c.toNat ∧ c.toNat ≤ 4
        · rw [wy_ok (by omega) (by omega) h3] at h; simp at h; omega
        · rw [wy_kind (by omega) (by omega) h3] at h
          rw [rnm_cons (by omega) (by omega), if_neg (by omega), if_neg (by omega), if_neg (by omega), if_neg (by omega)]
          simp at h; rw [← h]
theorem rtx_err {s : Tx} {many : Int} {e : Nat} (_he : 0 < e) (h : wy 5 7 s many = (0, [], e)) : rtx s many = ([], e) := by
  by_cases h1 : many < 0
  · rw [wy_neg h1] at h; rw [rtx_neg h1]; simp at h; rw [← h]
  · by_cases h2 : 64 < many
    · rw [wy_many h2] at h; rw [rtx_many h2]; simp at h; rw [← h]
    · cases s with
      | nil => rw [wy_nil (by omega) (by omega)] at h; rw [rtx_nil (by omega) (by omega)]; simp at h; rw [← h]
      | cons c t =>
        by_cases h3 : 5 ≤ c.toNat ∧ c.toNat ≤ 7
        · rw [wy_ok (by omega) (by omega) h3] at h; simp at h; omega
        · rw [wy_kind (by omega) (by omega) h3] at h
          rw [rtx_cons (by omega) (by omega), if_neg (by omega), if_neg (by omega), if_neg (by omega)]
          simp at h; rw [← h]
end Hy.Cod
namespace Go.Proofs.YtdmmodeplfmpnaaGreat
open Go.RowKit Hy
set_option maxHeartbeats 1000000 in
theorem readWideB_own (s : ByteArray) (many : Int) (w : World) :
    Calls Tryz.prog 47 #[.string s, .int .i64 many, .func (.func 48) #[] #[]] w (NumsOwn 39 (Cod.wde (Cod.rpk many) s.data.toList).1 (Cod.wde (Cod.rpk many) s.data.toList).2 w) := by
  cases hd : s.data.toList with
  | nil =>
    rw [Cod.wde_nil]
    obtain rfl : s = ⟨#[]⟩ := by
      apply ByteArray.ext; apply Array.ext'; rw [hd]
    clear hd
    go_enter Tryz.func47, Tryz.ntmps47
    go_wp2
    go_returns
    exact ⟨.slice none 0 0, rfl, World.ownsRow_nil _ _ _ _, ext_refl _⟩
  | cons c t =>
    have hsl : s.size = t.length + 1 := by have := congrArg List.length hd; rw [Array.length_toList] at this; simpa using this
    have hT := fun wx : World => run_from (P := Tryz.prog) (w := wx) Tryz.underlying9 s .i64 1 (by omega)
    have hX := fun wx : World => run_ix0 (P := Tryz.prog) (w := wx) Tryz.underlying9 s .i64 c t hd
    have h11 : ((1 : Nat) : Int) = 1 := rfl
    simp only [hd, List.drop_succ_cons, List.drop_zero, h11] at hT
    have e1 : s.toList.isEmpty = false := by
      have : s.toList = s.data.toList := toList_data s
      rw [this, hd]; rfl
    have HRE := hid (fun wx => show Calls Tryz.prog 48 #[.string ⟨t.toArray⟩, .int .i64 many, .int .i64 c.toNat] wx (NumsOwn 39 (Cod.rpk many t c.toNat).1 (Cod.rpk many t c.toNat).2 wx) from unpack_own ⟨t.toArray⟩ many c.toNat wx)
    have HLT := hid (Cod.rpk_lt many t c.toNat).1
    have hlen := (Cod.rpk_lt many t c.toNat).2
    obtain ⟨TT, hTT⟩ : ∃ S : ByteArray, S = ⟨t.toArray⟩ := ⟨_, rfl⟩
    rw [← hTT] at HRE hT
    have hc8 : c.toNat < 256 := c.toNat_lt
    have HB := hid (@Cod.wde_bad (Cod.rpk many) c t)
    have HF := hid (@Cod.wde_form (Cod.rpk many) c t)
    have HO := hid (@Cod.wde_ok (Cod.rpk many) c t)
    obtain ⟨R, hR⟩ : ∃ R, R = Cod.wde (Cod.rpk many) (c :: t) := ⟨_, rfl⟩
    rw [← hR] at HB HF HO ⊢
    unfold NumsOwn at HRE
    obtain ⟨L, er, hl⟩ : ∃ L er, Cod.rpk many t c.toNat = (L, er) := ⟨_, _, rfl⟩
    rw [hl] at HRE HLT hlen HB HF HO
    simp only at HRE HLT hlen HB HF HO
    clear hTT hl hR hd hsl
    generalize c.toNat = z at *
    have hzI : (z : Int) ≤ 255 := by omega
    obtain ⟨m, hm⟩ : ∃ m, m = L.length := ⟨_, rfl⟩
    rw [← hm] at HRE hlen
    have HM := hid hm
    have hmI : (m : Int) ≤ 64 := by omega
    clear hm hc8
    by_cases he : er = 0
    · subst he
      have HWA := hid (fun A c wx h => width_any L A m c wx HM.out.symm h HLT.out (by omega))
      obtain ⟨wi, hwi⟩ : ∃ wi, wi = Bits.width L := ⟨_, rfl⟩
      rw [← hwi] at HWA HF HO
      by_cases hw : wi = z
      · have HRR := hid (HO.out rfl hw)
        subst hw
        clear HB HF HO hlen hwi
        go_enter Tryz.func47, Tryz.ntmps47
        go_wp2_with fail
        refine Calls.mono (HRE.out _) ?_
        rintro e w1 ⟨v, rfl, hown, hx⟩
        obtain ⟨A, cp, rfl, hrd, _⟩ := Rd.owned hown
        have HRD := hid hrd
        have HOW := hid hown
        have HX := hid hx
        clear hrd hx hown
        go_wp2_with fail
        refine Calls.mono (HWA.out _ _ _ HRD.out) ?_
        rintro e _ ⟨rfl, rfl⟩
        go_wp2
        go_returns
        rw [HRR.out]
        exact ⟨_, rfl, by rw [← HM.out]; exact HOW.out, HX.out⟩
      · have HRR := hid (HF.out rfl hw)
        have h3 : ((wi : Int) != (z : Int)) = true := by rw [bne_iff_ne]; omega
        have h4 : ((wi : Int) == (z : Int)) = false := by rw [beq_eq_false_iff_ne]; omega
        clear HB HF HO hlen hwi hw
        go_enter Tryz.func47, Tryz.ntmps47
        go_wp2_with fail
        refine Calls.mono (HRE.out _) ?_
        rintro e w1 ⟨v, rfl, hown, hx⟩
        obtain ⟨A, cp, rfl, hrd, _⟩ := Rd.owned hown
        have HRD := hid hrd
        have HOW := hid hown
        have HX := hid hx
        clear hrd hx hown
        go_wp2_with fail
        refine Calls.mono (HWA.out _ _ _ HRD.out) ?_
        rintro e _ ⟨rfl, rfl⟩
        go_wp2
        go_returns
        rw [HRR.out]
        exact ⟨.slice none 0 0, rfl, World.ownsRow_nil _ _ _ _, HX.out⟩
    · have HRR := hid (HB.out he)
      have h3 : ((er : Int) != 0) = true := by rw [bne_iff_ne]; omega
      have h4 : ((er : Int) == 0) = false := by rw [beq_eq_false_iff_ne]; omega
      clear HB HF HO hlen he
      go_enter Tryz.func47, Tryz.ntmps47
      go_wp2_with fail
      refine Calls.mono (HRE.out _) ?_
      rintro e w1 ⟨v, rfl, hown, hx⟩
      obtain ⟨A, cp, rfl, _⟩ := Rd.owned hown
      have HX := hid hx
      clear hown hx
      go_wp2
      go_returns
      rw [HRR.out]
      exact ⟨.slice none 0 0, rfl, World.ownsRow_nil _ _ _ _, HX.out⟩
set_option maxHeartbeats 1000000 in
theorem readWideH_own (s : ByteArray) (many : Int) (w : World) :
    Calls Tryz.prog 47 #[.string s, .int .i64 many, .func (.func 49) #[] #[]] w (NumsOwn 39 (Cod.wde (Cod.rhy many) s.data.toList).1 (Cod.wde (Cod.rhy many) s.data.toList).2 w) := by
  cases hd : s.data.toList with
  | nil =>
    rw [Cod.wde_nil]
    obtain rfl : s = ⟨#[]⟩ := by
      apply ByteArray.ext; apply Array.ext'; rw [hd]
    clear hd
    go_enter Tryz.func47, Tryz.ntmps47
    go_wp2
    go_returns
    exact ⟨.slice none 0 0, rfl, World.ownsRow_nil _ _ _ _, ext_refl _⟩
  | cons c t =>
    have hsl : s.size = t.length + 1 := by have := congrArg List.length hd; rw [Array.length_toList] at this; simpa using this
    have hT := fun wx : World => run_from (P := Tryz.prog) (w := wx) Tryz.underlying9 s .i64 1 (by omega)
    have hX := fun wx : World => run_ix0 (P := Tryz.prog) (w := wx) Tryz.underlying9 s .i64 c t hd
    have h11 : ((1 : Nat) : Int) = 1 := rfl
    simp only [hd, List.drop_succ_cons, List.drop_zero, h11] at hT
    have e1 : s.toList.isEmpty = false := by
      have : s.toList = s.data.toList := toList_data s
      rw [this, hd]; rfl
    have HRE := hid (fun wx => show Calls Tryz.prog 49 #[.string ⟨t.toArray⟩, .int .i64 many, .int .i64 c.toNat] wx (NumsOwn 39 (Cod.rhy many t c.toNat).1 (Cod.rhy many t c.toNat).2 wx) from hyRead_own ⟨t.toArray⟩ many c.toNat wx)
    have HLT := hid (Cod.rhy_lt many t c.toNat).1
    have hlen := (Cod.rhy_lt many t c.toNat).2
    obtain ⟨TT, hTT⟩ : ∃ S : ByteArray, S = ⟨t.toArray⟩ := ⟨_, rfl⟩
    rw [← hTT] at HRE hT
    have hc8 : c.toNat < 256 := c.toNat_lt
    have HB := hid (@Cod.wde_bad (Cod.rhy many) c t)
    have HF := hid (@Cod.wde_form (Cod.rhy many) c t)
    have HO := hid (@Cod.wde_ok (Cod.rhy many) c t)
    obtain ⟨R, hR⟩ : ∃ R, R = Cod.wde (Cod.rhy many) (c :: t) := ⟨_, rfl⟩
    rw [← hR] at HB HF HO ⊢
    unfold NumsOwn at HRE
    obtain ⟨L, er, hl⟩ : ∃ L er, Cod.rhy many t c.toNat = (L, er) := ⟨_, _, rfl⟩
    rw [hl] at HRE HLT hlen HB HF HO
    simp only at HRE HLT hlen HB HF HO
    clear hTT hl hR hd hsl
    generalize c.toNat = z at *
    have hzI : (z : Int) ≤ 255 := by omega
    obtain ⟨m, hm⟩ : ∃ m, m = L.length := ⟨_, rfl⟩
    rw [← hm] at HRE hlen
    have HM := hid hm
    have hmI : (m : Int) ≤ 64 := by omega
    clear hm hc8
    by_cases he : er = 0
    · subst he
      have HWA := hid (fun A c wx h => width_any L A m c wx HM.out.symm h HLT.out (by omega))
      obtain ⟨wi, hwi⟩ : ∃ wi, wi = Bits.width L := ⟨_, rfl⟩
      rw [← hwi] at HWA HF HO
      by_cases hw : wi = z
      · have HRR := hid (HO.out rfl hw)
        subst hw
        clear HB HF HO hlen hwi
        go_enter Tryz.func47, Tryz.ntmps47
        go_wp2_with fail
        refine Calls.mono (HRE.out _) ?_
        rintro e w1 ⟨v, rfl, hown, hx⟩
        obtain ⟨A, cp, rfl, hrd, _⟩ := Rd.owned hown
        have HRD := hid hrd
        have HOW := hid hown
        have HX := hid hx
        clear hrd hx hown
        go_wp2_with fail
        refine Calls.mono (HWA.out _ _ _ HRD.out) ?_
        rintro e _ ⟨rfl, rfl⟩
        go_wp2
        go_returns
        rw [HRR.out]
        exact ⟨_, rfl, by rw [← HM.out]; exact HOW.out, HX.out⟩
      · have HRR := hid (HF.out rfl hw)
        have h3 : ((wi : Int) != (z : Int)) = true := by rw [bne_iff_ne]; omega
        have h4 : ((wi : Int) == (z : Int)) = false := by rw [beq_eq_false_iff_ne]; omega
        clear HB HF HO hlen hwi hw
        go_enter Tryz.func47, Tryz.ntmps47
        go_wp2_with fail
        refine Calls.mono (HRE.out _) ?_
        rintro e w1 ⟨v, rfl, hown, hx⟩
        obtain ⟨A, cp, rfl, hrd, _⟩ := Rd.owned hown
        have HRD := hid hrd
        have HOW := hid hown
        have HX := hid hx
        clear hrd hx hown
        go_wp2_with fail
        refine Calls.mono (HWA.out _ _ _ HRD.out) ?_
        rintro e _ ⟨rfl, rfl⟩
        go_wp2
        go_returns
        rw [HRR.out]
        exact ⟨.slice none 0 0, rfl, World.ownsRow_nil _ _ _ _, HX.out⟩
    · have HRR := hid (HB.out he)
      have h3 : ((er : Int) != 0) = true := by rw [bne_iff_ne]; omega
      have h4 : ((er : Int) == 0) = false := by rw [beq_eq_false_iff_ne]; omega
      clear HB HF HO hlen he
      go_enter Tryz.func47, Tryz.ntmps47
      go_wp2_with fail
      refine Calls.mono (HRE.out _) ?_
      rintro e w1 ⟨v, rfl, hown, hx⟩
      obtain ⟨A, cp, rfl, _⟩ := Rd.owned hown
      have HX := hid hx
      clear hown hx
      go_wp2
      go_returns
      rw [HRR.out]
      exact ⟨.slice none 0 0, rfl, World.ownsRow_nil _ _ _ _, HX.out⟩
set_option maxHeartbeats 800000 in
theorem wayN_any (s : ByteArray) (many : Int) (w : World) :
    Calls Tryz.prog 46 #[.string s, .int .i64 many, .func (.func 34) #[] #[]] w fun e w' => e = .returned (.tuple #[.int .i64 (Cod.wy 1 4 s.data.toList many).1, .string ⟨(Cod.wy 1 4 s.data.toList many).2.1.toArray⟩, .int .i64 (Cod.wy 1 4 s.data.toList many).2.2]) ∧ Ext w w' := by
  by_cases h1 : many < 0
  · rw [Cod.wy_neg h1]
    go_enter Tryz.func46, Tryz.ntmps46
    go_wp2
    go_returns
    exact ⟨rfl, ext_refl _⟩
  by_cases h2 : 64 < many
  · rw [Cod.wy_many h2]
    go_enter Tryz.func46, Tryz.ntmps46
    go_wp2
    go_returns
    exact ⟨rfl, ext_refl _⟩
  cases hd : s.data.toList with
  | nil =>
    rw [Cod.wy_nil (by omega) (by omega)]
    obtain rfl : s = ⟨#[]⟩ := by
      apply ByteArray.ext; apply Array.ext'; rw [hd]
    clear hd
    go_enter Tryz.func46, Tryz.ntmps46
    go_wp2
    go_returns
    exact ⟨rfl, ext_refl _⟩
  | cons c t =>
    have hsl : s.size = t.length + 1 := by have := congrArg List.length hd; rw [Array.length_toList] at this; simpa using this
    have hT := fun wx : World => run_from (P := Tryz.prog) (w := wx) Tryz.underlying9 s .i64 1 (by omega)
    have hX := fun wx : World => run_ix0 (P := Tryz.prog) (w := wx) Tryz.underlying9 s .i64 c t hd
    have h11 : ((1 : Nat) : Int) = 1 := rfl
    simp only [hd, List.drop_succ_cons, List.drop_zero, h11] at hT
    have e1 : s.toList.isEmpty = false := by
      have : s.toList = s.data.toList := toList_data s
      rw [this, hd]; rfl
    have C1 := hid (fun wx => isNumbers_any (c.toNat : Int) wx)
    by_cases hk : 1 ≤ c.toNat ∧ c.toNat ≤ 4
    · rw [Cod.wy_ok (by omega) (by omega) hk]
      rw [decide_eq_true (by omega)] at C1
      have hc8 : c.toNat < 256 := c.toNat_lt
      obtain ⟨TT, hTT⟩ : ∃ S : ByteArray, S = ⟨t.toArray⟩ := ⟨_, rfl⟩
      simp only [← hTT] at hT ⊢
      clear hTT hd hsl hk
      generalize c.toNat = z at *
      have hzI : (z : Int) ≤ 255 := by omega
      clear hc8
      go_enter Tryz.func46, Tryz.ntmps46
      go_wp2_with fail
      refine Calls.mono (C1.out _) ?_
      rintro e _ ⟨rfl, rfl⟩
      go_wp2
      refine wp_region_walk [(0, true), (1, true), (2, true), (3, true), (4, true), (5, true), (6, true), (7, true)] (by kernel_rfl) (by kernel_rfl) (fun _ _ _ _ _ h => h) (by kernel_rfl) (by rfl) ?_
      simp only [List.filterMap_cons, List.filterMap_nil, List.getElem?_toArray, List.getElem?_cons_zero, List.getElem?_cons_succ, Option.map_some]
      repeat (refine wpM_val (by rfl) ?_; intro K hK; go_big_quiet_op; go_big_quiet_on)
      refine wpM_nil ?_
      go_wp2
      go_returns
      exact ⟨rfl, (ext_refl _).draw⟩
    · rw [Cod.wy_kind (by omega) (by omega) hk]
      rw [decide_eq_false (by omega)] at C1
      have hc8 : c.toNat < 256 := c.toNat_lt
      clear hd hsl hk hT
      generalize c.toNat = z at *
      have hzI : (z : Int) ≤ 255 := by omega
      clear hc8
      go_enter Tryz.func46, Tryz.ntmps46
      go_wp2_with fail
      refine Calls.mono (C1.out _) ?_
      rintro e _ ⟨rfl, rfl⟩
      go_wp2
      go_returns
      exact ⟨rfl, ext_refl _⟩
set_option maxHeartbeats 800000 in
theorem wayT_any (s : ByteArray) (many : Int) (w : World) :
    Calls Tryz.prog 46 #[.string s, .int .i64 many, .func (.func 52) #[] #[]] w fun e w' => e = .returned (.tuple #[.int .i64 (Cod.wy 5 7 s.data.toList many).1, .string ⟨(Cod.wy 5 7 s.data.toList many).2.1.toArray⟩, .int .i64 (Cod.wy 5 7 s.data.toList many).2.2]) ∧ Ext w w' := by
  by_cases h1 : many < 0
  · rw [Cod.wy_neg h1]
    go_enter Tryz.func46, Tryz.ntmps46
    go_wp2
    go_returns
    exact ⟨rfl, ext_refl _⟩
  by_cases h2 : 64 < many
  · rw [Cod.wy_many h2]
    go_enter Tryz.func46, Tryz.ntmps46
    go_wp2
    go_returns
    exact ⟨rfl, ext_refl _⟩
  cases hd : s.data.toList with
  | nil =>
    rw [Cod.wy_nil (by omega) (by omega)]
    obtain rfl : s = ⟨#[]⟩ := by
      apply ByteArray.ext; apply Array.ext'; rw [hd]
    clear hd
    go_enter Tryz.func46, Tryz.ntmps46
    go_wp2
    go_returns
    exact ⟨rfl, ext_refl _⟩
  | cons c t =>
    have hsl : s.size = t.length + 1 := by have := congrArg List.length hd; rw [Array.length_toList] at this; simpa using this
    have hT := fun wx : World => run_from (P := Tryz.prog) (w := wx) Tryz.underlying9 s .i64 1 (by omega)
    have hX := fun wx : World => run_ix0 (P := Tryz.prog) (w := wx) Tryz.underlying9 s .i64 c t hd
    have h11 : ((1 : Nat) : Int) = 1 := rfl
    simp only [hd, List.drop_succ_cons, List.drop_zero, h11] at hT
    have e1 : s.toList.isEmpty = false := by
      have : s.toList = s.data.toList := toList_data s
      rw [this, hd]; rfl
    have C1 := hid (fun wx => isTexts_any (c.toNat : Int) wx)
    by_cases hk : 5 ≤ c.toNat ∧ c.toNat ≤ 7
    · rw [Cod.wy_ok (by omega) (by omega) hk]
      rw [decide_eq_true (by omega)] at C1
      have hc8 : c.toNat < 256 := c.toNat_lt
      obtain ⟨TT, hTT⟩ : ∃ S : ByteArray, S = ⟨t.toArray⟩ := ⟨_, rfl⟩
      simp only [← hTT] at hT ⊢
      clear hTT hd hsl hk
      generalize c.toNat = z at *
      have hzI : (z : Int) ≤ 255 := by omega
      clear hc8
      go_enter Tryz.func46, Tryz.ntmps46
      go_wp2_with fail
      refine Calls.mono (C1.out _) ?_
      rintro e _ ⟨rfl, rfl⟩
      go_wp2
      refine wp_region_walk [(0, true), (1, true), (2, true), (3, true), (4, true), (5, true), (6, true), (7, true)] (by kernel_rfl) (by kernel_rfl) (fun _ _ _ _ _ h => h) (by kernel_rfl) (by rfl) ?_
      simp only [List.filterMap_cons, List.filterMap_nil, List.getElem?_toArray, List.getElem?_cons_zero, List.getElem?_cons_succ, Option.map_some]
      repeat (refine wpM_val (by rfl) ?_; intro K hK; go_big_quiet_op; go_big_quiet_on)
      refine wpM_nil ?_
      go_wp2
      go_returns
      exact ⟨rfl, (ext_refl _).draw⟩
    · rw [Cod.wy_kind (by omega) (by omega) hk]
      rw [decide_eq_false (by omega)] at C1
      have hc8 : c.toNat < 256 := c.toNat_lt
      clear hd hsl hk hT
      generalize c.toNat = z at *
      have hzI : (z : Int) ≤ 255 := by omega
      clear hc8
      go_enter Tryz.func46, Tryz.ntmps46
      go_wp2_with fail
      refine Calls.mono (C1.out _) ?_
      rintro e _ ⟨rfl, rfl⟩
      go_wp2
      go_returns
      exact ⟨rfl, ext_refl _⟩
set_option maxHeartbeats 1000000 in
theorem readNumbers_own (s : ByteArray) (many : Int) (w : World) (hs : s.size ≤ 281474976710656) :
    Calls Tryz.prog 17 #[.string s, .int .i64 many] w (NumsOwn 39 (Cod.rnm s.data.toList many).1 (Cod.rnm s.data.toList many).2 w) := by
  have CW := hid (wayN_any s many w)
  rcases Cod.wy_cases 1 4 s.data.toList many with ⟨er, h1, h2, h3⟩ | ⟨c, t, h1, h2, h3, h4, h5, h6⟩
  · rw [Cod.rnm_err h2 h1]
    rw [h1] at CW
    have h4 : ((er : Int) != 0) = true := by rw [bne_iff_ne]; omega
    have h5 : ((er : Int) == 0) = false := by rw [beq_eq_false_iff_ne]; omega
    clear h1 h2 h3
    go_enter Tryz.func17, Tryz.ntmps17
    go_wp2_with fail
    refine Calls.mono CW.out ?_
    rintro e w1 ⟨rfl, hx⟩
    have HX := hid hx
    clear hx
    go_wp2
    go_returns
    exact ⟨.slice none 0 0, rfl, World.ownsRow_nil _ _ _ _, HX.out⟩
  · rw [h2] at CW
    have htl : t.length ≤ s.size := by have := congrArg List.length h1; rw [Array.length_toList] at this; have h8 : s.data.size = s.size := rfl; simp at this; omega
    rw [h1, Cod.rnm_cons h5 h6]
    obtain ⟨TT, hTT⟩ : ∃ S : ByteArray, S = ⟨t.toArray⟩ := ⟨_, rfl⟩
    have htt : t = TT.data.toList := by rw [hTT]
    have hts : TT.size ≤ s.size := by rw [hTT, str_size]; exact htl
    simp only [← hTT] at CW
    rw [htt]
    clear hTT htt htl h1 h2
    obtain h | h | h | h : c.toNat = 1 ∨ c.toNat = 2 ∨ c.toNat = 3 ∨ c.toNat = 4 := by omega
    all_goals
      rw [h] at CW ⊢
      clear h h3 h4
    · simp (config := {decide := true}) only [if_true, if_false]
      have HC := hid (fun wx => readWideB_own TT many wx)
      clear hts hs
      go_enter Tryz.func17, Tryz.ntmps17
      go_wp2_with fail
      refine Calls.mono CW.out ?_
      rintro e w1 ⟨rfl, hx⟩
      have HX := hid hx
      clear hx
      go_wp2_with fail
      refine Calls.mono (HC.out _) ?_
      rintro e w2 ⟨v, rfl, hown, hx2⟩
      obtain ⟨A, cp, rfl, _⟩ := Rd.owned hown
      have HOW := hid (own_low' hown HX.out.size)
      have HX2 := hid (HX.out.then hx2)
      clear hown hx2
      go_wp2
      go_returns
      exact ⟨_, rfl, HOW.out, HX2.out⟩
    · simp (config := {decide := true}) only [if_true, if_false]
      have HC := hid (fun wx => readWideH_own TT many wx)
      clear hts hs
      go_enter Tryz.func17, Tryz.ntmps17
      go_wp2_with fail
      refine Calls.mono CW.out ?_
      rintro e w1 ⟨rfl, hx⟩
      have HX := hid hx
      clear hx
      go_wp2_with fail
      refine Calls.mono (HC.out _) ?_
      rintro e w2 ⟨v, rfl, hown, hx2⟩
      obtain ⟨A, cp, rfl, _⟩ := Rd.owned hown
      have HOW := hid (own_low' hown HX.out.size)
      have HX2 := hid (HX.out.then hx2)
      clear hown hx2
      go_wp2
      go_returns
      exact ⟨_, rfl, HOW.out, HX2.out⟩
    · simp (config := {decide := true}) only [if_true, if_false]
      have HC := hid (fun wx => dRead_own TT many wx (by omega))
      clear hts hs
      go_enter Tryz.func17, Tryz.ntmps17
      go_wp2_with fail
      refine Calls.mono CW.out ?_
      rintro e w1 ⟨rfl, hx⟩
      have HX := hid hx
      clear hx
      go_wp2_with fail
      refine Calls.mono (HC.out _) ?_
      rintro e w2 ⟨v, rfl, hown, hx2⟩
      obtain ⟨A, cp, rfl, _⟩ := Rd.owned hown
      have HOW := hid (own_low' hown HX.out.size)
      have HX2 := hid (HX.out.then hx2)
      clear hown hx2
      go_wp2
      go_returns
      exact ⟨_, rfl, HOW.out, HX2.out⟩
    · simp (config := {decide := true}) only [if_true, if_false]
      have HC := hid (fun wx => pRead_own TT many wx (by omega))
      clear hts hs
      go_enter Tryz.func17, Tryz.ntmps17
      go_wp2_with fail
      refine Calls.mono CW.out ?_
      rintro e w1 ⟨rfl, hx⟩
      have HX := hid hx
      clear hx
      go_wp2_with fail
      refine Calls.mono (HC.out _) ?_
      rintro e w2 ⟨v, rfl, hown, hx2⟩
      obtain ⟨A, cp, rfl, _⟩ := Rd.owned hown
      have HOW := hid (own_low' hown HX.out.size)
      have HX2 := hid (HX.out.then hx2)
      clear hown hx2
      go_wp2
      go_returns
      exact ⟨_, rfl, HOW.out, HX2.out⟩
theorem readNumbers_any (s : ByteArray) (many : Int) (w : World) (hs : s.size ≤ 281474976710656) :
    Calls Tryz.prog 17 #[.string s, .int .i64 many] w (NumsOut (Cod.rnm s.data.toList many).1 (Cod.rnm s.data.toList many).2 w) :=
  Calls.mono (readNumbers_own s many w hs) fun _ _ h => NumsOwn.out h
end Go.Proofs.YtdmmodeplfmpnaaGreat
end
section
namespace Hy.Cod
open Go
theorem rdl_fit {s : Tx} {many : Int} (h : (Front.rdl s many).2 = 0) : (Front.rdl s many).1.length ≤ 64 ∧ ∀ x ∈ (Front.rdl s many).1, x.length ≤ 16 := by
  obtain ⟨h1, _, h3⟩ := Front.rdl_only (l := (Front.rdl s many).1) (Prod.ext rfl h)
  refine ⟨h3, ?_⟩
  by_cases hf : (Front.rdl s many).1.length ≤ 64 ∧ Front.fitB (Front.rdl s many).1 = true
  · exact (Front.fitB_iff _).1 hf.2
  · rw [Front.wrt_bad hf] at h1; simp at h1
end Hy.Cod
namespace Go.Proofs.YtdmmodeplfmpnaaGreat
open Go.RowKit Hy
set_option maxRecDepth 100000 in
set_option maxHeartbeats 2000000 in
theorem readPlain_any (s0 : ByteArray) (mm : Nat) (w : World) (hs : s0.size ≤ 281474976710656) (hm : mm ≤ 64) :
    Calls Tryz.prog 53 #[.string s0, .int .i64 mm] w (TextsOut (Cod.rpl mm s0.data.toList []).1 (Cod.rpl mm s0.data.toList []).2 w) := by
  obtain ⟨R, hR⟩ : ∃ R, R = Cod.rpl mm s0.data.toList [] := ⟨_, rfl⟩
  rw [← hR]
  have HR := hid hR
  have HSS := hid hs
  have hmI : (mm : Int) ≤ 64 := by omega
  clear hR hs
  go_enter Tryz.func53, Tryz.ntmps53
  go_wp2
  go_loopw [0, 6, 7, 8, 9, 10, 12] (fun sv v _ _ _ _ c wr => ∃ (i : Nat) (S : ByteArray) (o : List (List UInt8)), i ≤ mm ∧ c = .int .i64 i ∧ sv = .string S ∧ S.size ≤ 281474976710656 ∧ o.length = i ∧ Hid (R = Cod.rpl (mm - i) S.data.toList o) ∧ Hid (wr.ownsRow w.heap.size 9 1 v o.length (txs o)) ∧ Hid (Ext w wr)) (fun _ _ _ _ _ _ c _ => mm - (intOf c).toNat)
  case atStart => exact ⟨0, s0, [], Nat.zero_le _, rfl, rfl, HSS.out, rfl, HR, hid (World.ownsRow_nil _ _ _ _), hid (ext_refl _)⟩
  case round =>
    obtain ⟨i, S, o, hi, rfl, rfl, hS, ho, HI, HO, HX⟩ := hrel
    by_cases hlt : i < mm
    · obtain ⟨j, hj⟩ : ∃ j, mm - i = j + 1 := ⟨mm - i - 1, by omega⟩
      have hj2 : mm - (i + 1) = j := by omega
      have e2 := HI.out
      rw [hj] at e2
      have CR := hid (fun wx => read_any S wx)
      obtain ⟨n, k, er, hrd⟩ : ∃ n k er, Vary.rd S.data.toList = (n, k, er) := ⟨_, _, _, rfl⟩
      rw [hrd] at CR
      simp only at CR
      have hltI : (i : Int) < (mm : Int) := by omega
      have hiI : (i : Int) ≤ 64 := by omega
      by_cases he : er = 0
      · subst he
        obtain ⟨g1, g2, g3, g4, _⟩ := Vary.rd_ok (s := S.data.toList) (by rw [hrd])
        rw [hrd] at g1 g2 g3 g4
        simp only at g1 g2 g3 g4
        rw [Array.length_toList] at g2
        have hsz : S.data.size = S.size := rfl
        have hdl : (S.data.toList.drop k).length = S.size - k := by rw [List.length_drop, Array.length_toList, hsz]
        rw [hsz] at g2
        have hkI : (k : Int) ≤ 9 := by omega
        have hSzI : (S.size : Int) ≤ 281474976710656 := by omega
        have hkS : (k : Int) ≤ (S.size : Int) := by omega
        by_cases hn16 : 16 < n
        · have HE := hid (show R = ([], 2) by rw [e2, Cod.rpl_bad (Cod.one_many hrd hn16) (by decide)])
          have hnI : (16 : Int) < (n : Int) := by omega
          clear hrd e2 HI hS ho hi hj hj2 hm hlt hn16 hdl hsz g1 g2 g3 g4 HR HSS
          go_wp2_with (first
            | (go_at_call 102; refine Calls.mono (CR.out _) ?_; rintro e' w2 ⟨rfl, hx2⟩; have HX2 := hid (HX.out.then hx2); have HO2 := hid (own_ext HO.out hx2); clear hx2))
          go_returns
          exact ⟨none, 0, by rw [HE.out]; rfl, fun h => by rw [HE.out] at h; simp [txs] at h, HX2.out⟩
        · have hnI : ¬ (16 : Int) < (n : Int) := by omega
          have hn2 : (n : Int) ≤ 16 := by omega
          have hwn : IntKind.i64.wrap (n : Int) = (n : Int) := by rw [IntKind.wrap_i64]; omega
          have hwu : IntKind.u64.wrap ((S.size : Int) - (k : Int)) = (S.size : Int) - (k : Int) := by rw [IntKind.wrap_u64]; omega
          by_cases h5 : S.size - k < n
          · have HE := hid (show R = ([], 5) by rw [e2, Cod.rpl_bad (Cod.one_none hrd hn16 (by rw [hdl]; exact h5)) (by decide)])
            have h5I : (S.size : Int) - (k : Int) < (n : Int) := by omega
            clear hrd e2 HI hS ho hi hj hj2 hm hlt hn16 hdl hsz g1 g2 g3 g4 HR HSS h5
            go_wp2_with (first
              | (go_at_call 102; refine Calls.mono (CR.out _) ?_; rintro e' w2 ⟨rfl, hx2⟩; have HX2 := hid (HX.out.then hx2); have HO2 := hid (own_ext HO.out hx2); clear hx2))
            go_returns
            exact ⟨none, 0, by rw [HE.out]; rfl, fun h => by rw [HE.out] at h; simp [txs] at h, HX2.out⟩
          · have h5I : ¬ (S.size : Int) - (k : Int) < (n : Int) := by omega
            have hon := Cod.one_ok hrd hn16 (by rw [hdl]; exact h5)
            rw [Cod.rpl_ok hon] at e2
            have hF := fun wx : World => run_fromto (P := Tryz.prog) (w := wx) Tryz.underlying9 S .i64 .i64 k (k + n) (by omega) (by omega)
            have hT := fun wx : World => run_from (P := Tryz.prog) (w := wx) Tryz.underlying9 S .i64 (k + n) (by omega)
            rw [Nat.add_sub_cancel_left] at hF
            rw [← List.drop_drop] at hT
            simp only [Int.natCast_add] at hF hT
            obtain ⟨t, ht⟩ : ∃ t, t = (S.data.toList.drop k).take n := ⟨_, rfl⟩
            obtain ⟨r, hr⟩ : ∃ r, r = (S.data.toList.drop k).drop n := ⟨_, rfl⟩
            rw [← ht] at hF e2
            rw [← hr] at hT e2
            have hrl : r.length ≤ 281474976710656 := by rw [hr, List.length_drop, hdl]; omega
            obtain ⟨U, hU⟩ : ∃ U : ByteArray, U = ⟨r.toArray⟩ := ⟨_, rfl⟩
            have hUr : U.data.toList = r := by rw [hU]
            rw [← hU] at hT
            have HE := hid (show R = Cod.rpl (mm - (i + 1)) U.data.toList (o ++ [t]) by rw [e2, hj2, hUr])
            have HUL := hid (show U.size ≤ 281474976710656 by rw [hU, str_size]; exact hrl)
            have HOL := hid (show (o ++ [t]).length = i + 1 by rw [List.length_append]; simp; omega)
            have HOL0 := hid ho
            have HIM := hid hlt
            have HI64 := hid (show i ≤ 64 by omega)
            clear hrd e2 HI hS ho hi hj hj2 hm hn16 hdl hsz g1 g2 g3 g4 HR HSS h5 hon ht hr hrl hU hUr hlt
            go_wp2_with (first
              | (go_at_call 102; refine Calls.mono (CR.out _) ?_; rintro e' w2 ⟨rfl, hx2⟩; have HX2 := hid (HX.out.then hx2); have HO2 := hid (own_ext HO.out hx2); clear hx2)
              | (at_builtin; refine wpList_app rfl (.tmp 39) (.tmp 44) rowTx rfl _ o.length _ rfl (HO2.out.alloc _) _ 1 (txs [t]) rfl (Src.rd Tryz.underlying33 _ 1 1 _ rfl (rd_lit rfl rfl) (txs_one _) (fun h => by cases h)) (by have := HI64.out; have := HOL0.out; unfold maxLen; omega) (by have := HI64.out; have := HOL0.out; omega) (by have := HX2.out.size; simp; omega) ?_; intro v' w3 hown3 hgrow hat hbel; have HO3 := hid hown3; have HX3 : Hid (Ext w w3) := hid (Below.trans (Ext.new HX2.out _) hbel); clear hown3 hgrow hat hbel))
            go_roundw
            case rel => exact ⟨i + 1, U, o ++ [t], HIM.out, by go_num, rfl, HUL.out, HOL.out, HE, hid (by rw [txs_app, List.length_append]; exact HO3.out), HX3⟩
            case measure => simp [intOf]; have := HIM.out; omega
      · have HE := hid (show R = ([], er) by rw [e2, Cod.rpl_bad (Cod.one_bad hrd he) he])
        have h3 : ((er : Int) != 0) = true := by rw [bne_iff_ne]; omega
        have h4 : ((er : Int) == 0) = false := by rw [beq_eq_false_iff_ne]; omega
        clear hrd e2 HI hS ho hi hj hj2 hm hlt he HR HSS
        go_wp2_with (first
          | (go_at_call 102; refine Calls.mono (CR.out _) ?_; rintro e' w2 ⟨rfl, hx2⟩; have HX2 := hid (HX.out.then hx2); have HO2 := hid (own_ext HO.out hx2); clear hx2))
        go_returns
        exact ⟨none, 0, by rw [HE.out]; rfl, fun h => by rw [HE.out] at h; simp [txs] at h, HX2.out⟩
    · obtain rfl : i = mm := by omega
      have e2 := HI.out
      rw [Nat.sub_self] at e2
      obtain ⟨A3, c3, rfl, hrd3, _⟩ := Rd.owned HO.out
      have HRD := hid hrd3
      rw [ho]
      have HOL := hid ho
      by_cases hs0 : S.data.toList = []
      · obtain rfl : S = ⟨#[]⟩ := by
          apply ByteArray.ext; apply Array.ext'; rw [hs0]
        have HE := hid (show R = (o, 0) by rw [e2]; rfl)
        clear e2 HI hS ho hi hm hlt HR HSS hs0 hrd3 HO
        go_wp2
        go_returns
        exact ⟨A3, c3, by rw [HE.out]; show _ = Ending.returned (.tuple #[.slice A3 o.length c3, _]); rw [HOL.out]; rfl, by rw [HE.out]; exact HRD.out, HX.out⟩
      · have HE := hid (show R = ([], 1) by rw [e2]; simp only [Cod.rpl]; rw [if_neg hs0])
        have e1 : S.toList.isEmpty = false := by
          have : S.toList = S.data.toList := toList_data S
          rw [this]; simpa using hs0
        have hz : 0 < (S.size : Int) := by
          have h8 : S.data.size = S.size := rfl
          have h9 : S.data.toList.length ≠ 0 := fun h => hs0 (List.length_eq_zero_iff.1 h)
          rw [Array.length_toList] at h9; omega
        clear e2 HI hS ho hi hm hlt HR HSS hs0 hrd3 HO
        go_wp2
        go_returns
        exact ⟨none, 0, by rw [HE.out]; rfl, fun h => by rw [HE.out] at h; simp [txs] at h, HX.out⟩
set_option maxRecDepth 100000 in
set_option maxHeartbeats 2000000 in
theorem readBook_any (S : ByteArray) (mm : Nat) (w : World) (hs : S.size ≤ 281474976710656) (hm : mm ≤ 64) :
    Calls Tryz.prog 54 #[.string S, .int .i64 mm] w (TextsOut (Cod.rbk S.data.toList mm).1 (Cod.rbk S.data.toList mm).2 w) := by
  have CR := hid (fun wx => read_any S wx)
  obtain ⟨n, k, er, hrd⟩ : ∃ n k er, Vary.rd S.data.toList = (n, k, er) := ⟨_, _, _, rfl⟩
  rw [hrd] at CR
  simp only at CR
  have hmI : (mm : Int) ≤ 64 := by omega
  obtain ⟨R, hR⟩ : ∃ R, R = Cod.rbk S.data.toList mm := ⟨_, rfl⟩
  rw [← hR]
  by_cases he : er = 0
  · subst he
    obtain ⟨g1, g2, g3, g4, _⟩ := Vary.rd_ok (s := S.data.toList) (by rw [hrd])
    rw [hrd] at g1 g2 g3 g4
    simp only at g1 g2 g3 g4
    have hsz : S.data.size = S.size := rfl
    rw [Array.length_toList, hsz] at g2
    have hkI : (k : Int) ≤ 9 := by omega
    have hSzI : (S.size : Int) ≤ 281474976710656 := by omega
    have hkS : (k : Int) ≤ (S.size : Int) := by omega
    by_cases hn64 : 64 < n
    · have HE := hid (show R = ([], 2) by rw [hR, Cod.rbk_many hrd hn64])
      have hnI : (64 : Int) < (n : Int) := by omega
      clear hrd hR hs hm hsz g1 g2 g3 g4 hn64
      go_enter Tryz.func54, Tryz.ntmps54
      go_wp2_with fail
      refine Calls.mono (CR.out _) ?_
      rintro e' w1 ⟨rfl, hx⟩
      have XP := hid hx
      clear hx
      go_wp2
      go_returns
      exact ⟨none, 0, by rw [HE.out]; rfl, fun h => by rw [HE.out] at h; simp [txs] at h, XP.out⟩
    · have hnI : ¬ (64 : Int) < (n : Int) := by omega
      have hn2 : (n : Int) ≤ 64 := by omega
      have hwn : IntKind.i64.wrap (n : Int) = (n : Int) := by rw [IntKind.wrap_i64]; omega
      have hlw := Cod.lw_le (n := n) (by omega)
      have HL := hid (fun wx => lastWidth_any n wx (by omega))
      obtain ⟨lwb, hlwb⟩ : ∃ q, q = Cod.lw n := ⟨_, rfl⟩
      obtain ⟨z, hz⟩ : ∃ z, z = Bits.size mm lwb := ⟨_, rfl⟩
      obtain ⟨p, hp⟩ : ∃ p, p = mm * lwb := ⟨_, rfl⟩
      have hz' : Bits.size mm (Cod.lw n) = z := by rw [hz, hlwb]
      rw [← hlwb] at HL hlw
      have hpl : p ≤ 64 * 7 := by rw [hp]; exact Nat.mul_le_mul hm hlw
      have hpI : (p : Int) ≤ 448 := by omega
      have hlwI : (lwb : Int) ≤ 7 := by omega
      have hmul : (mm : Int) * (lwb : Int) = (p : Int) := by rw [hp, Int.natCast_mul]
      have hz8 : z = (p + 7) / 8 := by rw [hz, hp]; rfl
      have hdiv : ((p : Int) + 7) / 8 = (z : Int) := by omega
      have hzI : (z : Int) ≤ 56 := by omega
      obtain ⟨r, hr⟩ : ∃ r, r = S.data.toList.drop k := ⟨_, rfl⟩
      have hrl : r.length = S.size - k := by rw [hr, List.length_drop, Array.length_toList, hsz]
      by_cases h5 : r.length < z
      · have HE := hid (show R = ([], 5) by rw [hR, Cod.rbk_none hrd hn64 hr.symm hz' h5])
        have h5I : (S.size : Int) < (k : Int) + (z : Int) := by omega
        clear hrd hR hs hm hsz g1 g2 g3 g4 hn64 hlw hlwb hz hp hz' hpl hz8 hr hrl h5
        go_enter Tryz.func54, Tryz.ntmps54
        go_wp2_with fail
        refine Calls.mono (CR.out _) ?_
        rintro e' w1 ⟨rfl, hx⟩
        have XP := hid hx
        clear hx
        go_wp2_with fail
        refine Calls.mono (HL.out _) ?_
        rintro e' w2 ⟨rfl, hx⟩
        replace XP := hid (XP.out.then hx)
        clear hx
        go_wp2
        go_returns
        exact ⟨none, 0, by rw [HE.out]; rfl, fun h => by rw [HE.out] at h; simp [txs] at h, XP.out⟩
      · have h5I : ¬ (S.size : Int) < (k : Int) + (z : Int) := by omega
        have hF := fun wx : World => run_fromto (P := Tryz.prog) (w := wx) Tryz.underlying9 S .i64 .i64 k (k + z) (by omega) (by omega)
        have hT := fun wx : World => run_from (P := Tryz.prog) (w := wx) Tryz.underlying9 S .i64 (k + z) (by omega)
        rw [Nat.add_sub_cancel_left, ← hr] at hF
        rw [← List.drop_drop, ← hr] at hT
        simp only [Int.natCast_add] at hF hT
        have HU := hid (fun wx => show Calls Tryz.prog 48 #[.string ⟨(r.take z).toArray⟩, .int .i64 mm, .int .i64 lwb] wx (NumsOut (Bits.up (r.take z) mm lwb) (Bits.chk (r.take z) mm lwb) wx) from unpack_any ⟨(r.take z).toArray⟩ mm lwb wx)
        have HFR := hid (fun wx => show Calls Tryz.prog 55 #[.string ⟨(r.drop z).toArray⟩, .int .i64 n] wx (TextsOut (Front.rdl (r.drop z) n).1 (Front.rdl (r.drop z) n).2 wx) from fread_any ⟨(r.drop z).toArray⟩ n wx (by rw [str_size, List.length_drop]; omega))
        unfold NumsOut at HU
        unfold TextsOut at HFR
        have hup0 := Cod.rpk_lt mm (r.take z) lwb
        have hck := Cod.rbk_chk hrd hn64 hr.symm hz' h5
        have hfr := Cod.rbk_front hrd hn64 hr.symm hz' h5
        have hok := Cod.rbk_ok hrd hn64 hr.symm hz' h5
        rw [← hR, ← hlwb] at hck hfr hok
        have hft0 := fun h => Cod.rdl_fit (s := r.drop z) (many := n) h
        obtain ⟨C, hC⟩ : ∃ C, C = Bits.up (r.take z) mm lwb := ⟨_, rfl⟩
        obtain ⟨ec, hec⟩ : ∃ e, e = Bits.chk (r.take z) mm lwb := ⟨_, rfl⟩
        have hup : (∀ x ∈ C, x < 18446744073709551616) ∧ C.length ≤ 64 := by rw [hC]; exact hup0
        rw [← hC] at HU hok
        rw [← hec] at HU hck hfr hok
        obtain ⟨B, eb, hB⟩ : ∃ B eb, Front.rdl (r.drop z) n = (B, eb) := ⟨_, _, rfl⟩
        rw [hB] at HFR hfr hok hft0
        simp only at HFR hfr hok hft0
        obtain ⟨Y1, hY1⟩ : ∃ S : ByteArray, S = ⟨(r.take z).toArray⟩ := ⟨_, rfl⟩
        obtain ⟨Y2, hY2⟩ : ∃ S : ByteArray, S = ⟨(r.drop z).toArray⟩ := ⟨_, rfl⟩
        rw [← hY1] at HU hF
        rw [← hY2] at HFR hT
        obtain ⟨cn, hcn⟩ : ∃ q, q = C.length := ⟨_, rfl⟩
        rw [← hcn] at HU
        have hcnI : (cn : Int) ≤ 64 := by omega
        clear hrd hR hs hsz g1 g2 g3 g4 hn64 hlw hlwb hz hp hz' hpl hz8 hr hrl h5 hC hec hB hY1 hY2 hm hup0
        by_cases hcz : ec = 0
        · subst hcz
          obtain ⟨bn, hbn⟩ : ∃ q, q = B.length := ⟨_, rfl⟩
          rw [← hbn] at HFR
          by_cases hez : eb = 0
          · subst hez
            have HE := hid (hok rfl rfl)
            have hft := hft0 rfl
            have HTX := hid (fun A1 A2 c1 c2 wx (h1 : Rd wx A1 (txs B)) (h2 : Rd wx A2 (u64s C)) => show Calls Tryz.prog 86 #[.slice A1 B.length c1, .slice A2 C.length c2] wx (TextsOut (Dct.txt B C).1 (Dct.txt B C).2 wx) from dTexts_any B C A1 A2 B.length C.length c1 c2 wx rfl rfl h1 h2 hup.1 (by omega) (by omega))
            unfold TextsOut at HTX
            rw [← hbn, ← hcn] at HTX
            have hbnI : (bn : Int) ≤ 64 := by omega
            clear hck hfr hok hft0 hft hup hbn hcn
            go_enter Tryz.func54, Tryz.ntmps54
            go_wp2_with fail
            refine Calls.mono (CR.out _) ?_
            rintro e' w1 ⟨rfl, hx⟩
            have XP := hid hx
            clear hx
            go_wp2_with fail
            refine Calls.mono (HL.out _) ?_
            rintro e' w2 ⟨rfl, hx⟩
            replace XP := hid (XP.out.then hx)
            clear hx
            go_wp2_with fail
            refine Calls.mono (HU.out _) ?_
            rintro e' w3 ⟨A2, c2, rfl, hrc, hx⟩
            replace XP := hid (XP.out.then hx)
            have HRC := hid hrc
            clear hx hrc
            go_wp2_with fail
            refine Calls.mono (HFR.out _) ?_
            rintro e' w4 ⟨A1, c1, rfl, hrb, hx⟩
            replace XP := hid (XP.out.then hx)
            replace HRC := hid (HRC.out.keep hx)
            have HRB := hid hrb
            clear hx hrb
            go_wp2_with fail
            refine Calls.mono (HTX.out _ _ _ _ _ HRB.out HRC.out) ?_
            rintro e' w5 ⟨A3, c3, rfl, hrt, hx⟩
            replace XP := hid (XP.out.then hx)
            have HRT := hid hrt
            clear hx hrt
            go_wp2
            go_returns
            exact ⟨A3, c3, by rw [HE.out]; rfl, by rw [HE.out]; exact HRT.out, XP.out⟩
          · have HE := hid (hfr rfl hez)
            have h3 : ((eb : Int) != 0) = true := by rw [bne_iff_ne]; omega
            have h4 : ((eb : Int) == 0) = false := by rw [beq_eq_false_iff_ne]; omega
            clear hck hfr hok hft0 hup hez hbn hcn
            go_enter Tryz.func54, Tryz.ntmps54
            go_wp2_with fail
            refine Calls.mono (CR.out _) ?_
            rintro e' w1 ⟨rfl, hx⟩
            have XP := hid hx
            clear hx
            go_wp2_with fail
            refine Calls.mono (HL.out _) ?_
            rintro e' w2 ⟨rfl, hx⟩
            replace XP := hid (XP.out.then hx)
            clear hx
            go_wp2_with fail
            refine Calls.mono (HU.out _) ?_
            rintro e' w3 ⟨A2, c2, rfl, hrc, hx⟩
            replace XP := hid (XP.out.then hx)
            have HRC := hid hrc
            clear hx hrc
            go_wp2_with fail
            refine Calls.mono (HFR.out _) ?_
            rintro e' w4 ⟨A1, c1, rfl, hrb, hx⟩
            replace XP := hid (XP.out.then hx)
            replace HRC := hid (HRC.out.keep hx)
            have HRB := hid hrb
            clear hx hrb
            go_wp2
            go_returns
            exact ⟨none, 0, by rw [HE.out]; rfl, fun h => by rw [HE.out] at h; simp [txs] at h, XP.out⟩
        · have HE := hid (hck hcz)
          have h3 : ((ec : Int) != 0) = true := by rw [bne_iff_ne]; omega
          have h4 : ((ec : Int) == 0) = false := by rw [beq_eq_false_iff_ne]; omega
          clear hck hfr hok hft0 hup hcz hcn
          go_enter Tryz.func54, Tryz.ntmps54
          go_wp2_with fail
          refine Calls.mono (CR.out _) ?_
          rintro e' w1 ⟨rfl, hx⟩
          have XP := hid hx
          clear hx
          go_wp2_with fail
          refine Calls.mono (HL.out _) ?_
          rintro e' w2 ⟨rfl, hx⟩
          replace XP := hid (XP.out.then hx)
          clear hx
          go_wp2_with fail
          refine Calls.mono (HU.out _) ?_
          rintro e' w3 ⟨A2, c2, rfl, hrc, hx⟩
          replace XP := hid (XP.out.then hx)
          have HRC := hid hrc
          clear hx hrc
          go_wp2
          go_returns
          exact ⟨none, 0, by rw [HE.out]; rfl, fun h => by rw [HE.out] at h; simp [txs] at h, XP.out⟩
  · have HE := hid (show R = ([], er) by rw [hR, Cod.rbk_vary hrd he])
    have h3 : ((er : Int) != 0) = true := by rw [bne_iff_ne]; omega
    have h4 : ((er : Int) == 0) = false := by rw [beq_eq_false_iff_ne]; omega
    clear hrd hR hs hm he
    go_enter Tryz.func54, Tryz.ntmps54
    go_wp2_with fail
    refine Calls.mono (CR.out _) ?_
    rintro e' w1 ⟨rfl, hx⟩
    have XP := hid hx
    clear hx
    go_wp2
    go_returns
    exact ⟨none, 0, by rw [HE.out]; rfl, fun h => by rw [HE.out] at h; simp [txs] at h, XP.out⟩
set_option maxHeartbeats 1000000 in
theorem readTexts_any (s : ByteArray) (many : Int) (w : World) (hs : s.size ≤ 281474976710656) :
    Calls Tryz.prog 18 #[.string s, .int .i64 many] w (TextsOut (Cod.rtx s.data.toList many).1 (Cod.rtx s.data.toList many).2 w) := by
  have CW := hid (wayT_any s many w)
  rcases Cod.wy_cases 5 7 s.data.toList many with ⟨er, h1, h2, h3⟩ | ⟨c, t, h1, h2, h3, h4, h5, h6⟩
  · rw [Cod.rtx_err h2 h1]
    rw [h1] at CW
    have h4 : ((er : Int) != 0) = true := by rw [bne_iff_ne]; omega
    have h5 : ((er : Int) == 0) = false := by rw [beq_eq_false_iff_ne]; omega
    clear h1 h2 h3
    go_enter Tryz.func18, Tryz.ntmps18
    go_wp2_with fail
    refine Calls.mono CW.out ?_
    rintro e w1 ⟨rfl, hx⟩
    have HX := hid hx
    clear hx
    go_wp2
    go_returns
    exact ⟨none, 0, rfl, fun h => by simp [txs] at h, HX.out⟩
  · rw [h2] at CW
    have htl : t.length ≤ s.size := by have := congrArg List.length h1; rw [Array.length_toList] at this; have h8 : s.data.size = s.size := rfl; simp at this; omega
    obtain ⟨mm, rfl⟩ := Int.eq_ofNat_of_zero_le h5
    rw [h1, Cod.rtx_cons h5 h6, Int.toNat_natCast]
    obtain ⟨TT, hTT⟩ : ∃ S : ByteArray, S = ⟨t.toArray⟩ := ⟨_, rfl⟩
    have htt : t = TT.data.toList := by rw [hTT]
    have hts : TT.size ≤ s.size := by rw [hTT, str_size]; exact htl
    simp only [← hTT] at CW
    rw [htt]
    clear hTT htt htl h1 h2
    obtain h | h | h : c.toNat = 5 ∨ c.toNat = 6 ∨ c.toNat = 7 := by omega
    all_goals
      rw [h] at CW ⊢
      clear h h3 h4
    · simp (config := {decide := true}) only [if_true, if_false]
      have HC := hid (fun wx => readPlain_any TT mm wx (by omega) (by omega))
      clear hts hs
      go_enter Tryz.func18, Tryz.ntmps18
      go_wp2_with fail
      refine Calls.mono CW.out ?_
      rintro e w1 ⟨rfl, hx⟩
      have HX := hid hx
      clear hx
      go_wp2_with fail
      refine Calls.mono (HC.out _) ?_
      rintro e w2 ⟨A, cp, rfl, hrd, hx2⟩
      have HRD := hid hrd
      have HX2 := hid (HX.out.then hx2)
      clear hrd hx2
      go_wp2
      go_returns
      exact ⟨A, cp, rfl, HRD.out, HX2.out⟩
    · simp (config := {decide := true}) only [if_true, if_false]
      have HC := hid (fun wx => readBook_any TT mm wx (by omega) (by omega))
      clear hts hs
      go_enter Tryz.func18, Tryz.ntmps18
      go_wp2_with fail
      refine Calls.mono CW.out ?_
      rintro e w1 ⟨rfl, hx⟩
      have HX := hid hx
      clear hx
      go_wp2_with fail
      refine Calls.mono (HC.out _) ?_
      rintro e w2 ⟨A, cp, rfl, hrd, hx2⟩
      have HRD := hid hrd
      have HX2 := hid (HX.out.then hx2)
      clear hrd hx2
      go_wp2
      go_returns
      exact ⟨A, cp, rfl, HRD.out, HX2.out⟩
    · simp (config := {decide := true}) only [if_true, if_false]
      have HC := hid (fun wx => fread_any TT mm wx (by omega))
      clear hts hs
      go_enter Tryz.func18, Tryz.ntmps18
      go_wp2_with fail
      refine Calls.mono CW.out ?_
      rintro e w1 ⟨rfl, hx⟩
      have HX := hid hx
      clear hx
      go_wp2_with fail
      refine Calls.mono (HC.out _) ?_
      rintro e w2 ⟨A, cp, rfl, hrd, hx2⟩
      have HRD := hid hrd
      have HX2 := hid (HX.out.then hx2)
      clear hrd hx2
      go_wp2
      go_returns
      exact ⟨A, cp, rfl, HRD.out, HX2.out⟩
end Go.Proofs.YtdmmodeplfmpnaaGreat
end
section
namespace Hy.Cod
open Go
theorem asc_ext : ∀ (a b : List Tx), a.Pairwise (· < ·) → b.Pairwise (· < ·) → (∀ x, x ∈ a ↔ x ∈ b) → a = b
  | [], [], _, _, _ => rfl
  | [], y :: b, _, _, h => absurd ((h y).2 (by simp)) (by simp)
  | x :: a, [], _, _, h => absurd ((h x).1 (by simp)) (by simp)
  | x :: a, y :: b, ha, hb, h => by
    obtain ⟨a1, a2⟩ := List.pairwise_cons.1 ha
    obtain ⟨b1, b2⟩ := List.pairwise_cons.1 hb
    have hxy : x = y := by
      rcases List.mem_cons.1 ((h x).1 (by simp)) with e | e
      · exact e
      · rcases List.mem_cons.1 ((h y).2 (by simp)) with e2 | e2
        · exact e2.symm
        · exact absurd (b1 x e) (Dct.lt_asy (a1 y e2))
    subst hxy
    rw [asc_ext a b a2 b2 fun z => ?_]
    constructor
    · intro hz
      rcases List.mem_cons.1 ((h z).1 (by simp [hz])) with e | e
      · subst e; exact absurd (a1 _ hz) (Dct.lt_irr _)
      · exact e
    · intro hz
      rcases List.mem_cons.1 ((h z).2 (by simp [hz])) with e | e
      · subst e; exact absurd (b1 _ hz) (Dct.lt_irr _)
      · exact e
theorem bk_of (l b : List Tx) (h1 : Dct.asc b = true) (h2 : ∀ x, x ∈ l ↔ x ∈ b) : Dct.bk l = b := by
  obtain ⟨g1, g2⟩ := Dct.bk_spec l
  exact asc_ext _ _ g1 ((Dct.asc_iff _).1 h1) fun x => by rw [g2, h2]
theorem bnm_a : bnm (List.replicate 20 9) = ([2, 4, 40, 9], 0) := by decide +kernel
theorem rnm_a : rnm [2, 4, 40, 9] 20 = (List.replicate 20 9, 0) := by decide +kernel
theorem rnm_b : rnm [5] 0 = ([], 7) := by decide +kernel
theorem nmb_a : nmb [] 5 = ([], 7) := by decide +kernel
theorem bk_a : Dct.bk [[114, 111, 111, 107], [119, 114, 101, 110], [114, 111, 111, 107], [114, 111, 111, 107], [114, 111, 111, 107]] = [[114, 111, 111, 107], [119, 114, 101, 110]] := by
  refine bk_of _ _ (by decide +kernel) fun x => ?_
  simp only [List.mem_cons, List.not_mem_nil, or_false]
  constructor
  · rintro (h | h | h | h | h) <;> subst h <;> simp
  · rintro (h | h) <;> subst h <;> simp
theorem tx6_a : tx [[114, 111, 111, 107], [119, 114, 101, 110], [114, 111, 111, 107], [114, 111, 111, 107], [114, 111, 111, 107]] 6 = [2, 2, 0, 4, 114, 111, 111, 107, 0, 4, 119, 114, 101, 110] := by
  rw [tx6, bok_eq]
  unfold Dct.cds
  rw [bk_a]
  decide +kernel
theorem btx_a : btx [[114, 111, 111, 107], [119, 114, 101, 110], [114, 111, 111, 107], [114, 111, 111, 107], [114, 111, 111, 107]] = ([6, 2, 2, 0, 4, 114, 111, 111, 107, 0, 4, 119, 114, 101, 110], 0) := by
  unfold btx
  rw [if_neg (by decide +kernel)]
  have h5 : tx [[114, 111, 111, 107], [119, 114, 101, 110], [114, 111, 111, 107], [114, 111, 111, 107], [114, 111, 111, 107]] 5 = [4, 114, 111, 111, 107, 4, 119, 114, 101, 110, 4, 114, 111, 111, 107, 4, 114, 111, 111, 107, 4, 114, 111, 111, 107] := by decide +kernel
  have h7 : tx [[114, 111, 111, 107], [119, 114, 101, 110], [114, 111, 111, 107], [114, 111, 111, 107], [114, 111, 111, 107]] 7 = [0, 4, 114, 111, 111, 107, 0, 4, 119, 114, 101, 110, 0, 4, 114, 111, 111, 107, 4, 0, 4, 0] := by decide +kernel
  have g5 : tg (tx [[114, 111, 111, 107], [119, 114, 101, 110], [114, 111, 111, 107], [114, 111, 111, 107], [114, 111, 111, 107]]) 5 = 5 :: [4, 114, 111, 111, 107, 4, 119, 114, 101, 110, 4, 114, 111, 111, 107, 4, 114, 111, 111, 107, 4, 114, 111, 111, 107] := by unfold tg; rw [h5]; rfl
  have g6 : tg (tx [[114, 111, 111, 107], [119, 114, 101, 110], [114, 111, 111, 107], [114, 111, 111, 107], [114, 111, 111, 107]]) 6 = [6, 2, 2, 0, 4, 114, 111, 111, 107, 0, 4, 119, 114, 101, 110] := by unfold tg; rw [tx6_a]; rfl
  have g7 : tg (tx [[114, 111, 111, 107], [119, 114, 101, 110], [114, 111, 111, 107], [114, 111, 111, 107], [114, 111, 111, 107]]) 7 = 7 :: [0, 4, 114, 111, 111, 107, 0, 4, 119, 114, 101, 110, 0, 4, 114, 111, 111, 107, 4, 0, 4, 0] := by unfold tg; rw [h7]; rfl
  rw [up_succ, up_succ, up_zero]
  simp only [Nat.reduceAdd, g5, g6, g7]
  decide +kernel
theorem rtx_a : rtx [6, 2, 2, 0, 4, 114, 111, 111, 107, 0, 4, 119, 114, 101, 110] 5 = ([[114, 111, 111, 107], [119, 114, 101, 110], [114, 111, 111, 107], [114, 111, 111, 107], [114, 111, 111, 107]], 0) := by decide +kernel
end Hy.Cod
namespace Go.Proofs.YtdmmodeplfmpnaaGreat
open Go.RowKit Hy
set_option maxHeartbeats 1000000 in
theorem crep_any (x k : Nat) (w : World) (hk : k ≤ 1000) (hx : x < 18446744073709551616) :
    Calls Tryz.prog 44 #[.int .u64 x, .int .i64 k] w fun e w' => ∃ A cap, e = .returned (.slice A k cap) ∧ Rd w' A (u64s (List.replicate k x)) ∧ Ext w w' ∧ k ≤ cap := by
  have hkI : (k : Int) ≤ 1000 := by omega
  have hxI : (x : Int) ≤ 18446744073709551615 := by omega
  have HK := hid hk
  clear hx hk
  go_enter Tryz.func44, Tryz.ntmps44
  go_wp2
  go_loopw [5, 6] (fun v c wr => ∃ i : Nat, i ≤ k ∧ c = .int .i64 i ∧ Hid (wr.ownsRow w.heap.size 39 1 v i (u64s (List.replicate i x))) ∧ Ext w wr) (fun _ c _ => k - (intOf c).toNat)
  case atStart => exact ⟨0, Nat.zero_le _, rfl, hid (World.ownsRow_nil _ _ _ _), ext_refl _⟩
  case round =>
    obtain ⟨i, hi, rfl, HO, X⟩ := hrel
    by_cases hlt : i < k
    · have hltI : (i : Int) < (k : Int) := by omega
      have HI := hid (show i ≤ 1000 by have := HK.out; omega)
      go_wp2_with (at_builtin; refine wpList_app rfl (.tmp 12) (.tmp 14) rowU64 rfl _ i _ rfl (own_ext HO.out ((ext_refl _).new _)) _ 1 (u64s [x]) rfl (Src.rd Tryz.underlying22 _ 1 1 _ rfl (rd_lit rfl rfl) (u64s_one _) (fun h => by cases h)) (by have := HI.out; unfold maxLen; omega) (by have := HI.out; omega) (by have := X.size; simp; omega) ?_; intro v' w3 hown3 hgrow hat hbel; have O3 := hid hown3; have X3 := hid ((X.new _).trans hbel); clear hown3 hgrow hat hbel)
      go_roundw
      case rel => exact ⟨i + 1, by omega, by go_num, hid (by rw [List.replicate_succ', u64s_app]; exact O3.out), X3.out⟩
      case measure => simp [intOf]; omega
    · obtain rfl : i = k := by omega
      obtain ⟨A, c, rfl, hrd, _, hc, _⟩ := Rd.owned HO.out
      have HRD := hid hrd
      have HC := hid hc
      clear hrd hc
      go_wp2
      go_returns
      exact ⟨A, c, rfl, HRD.out, X, HC.out⟩
theorem ctextsF_any (A : Option Addr) (n c : Nat) (w : World) : Calls Tryz.prog 45 #[.slice A n c] w fun e w' => e = .returned (.slice A n c) ∧ w = w' := by
  go_enter Tryz.func45, Tryz.ntmps45
  go_wp2
  go_returns
  exact ⟨rfl, rfl⟩
theorem bestNumbers_of (l : List Nat) (r : List UInt8) (er : Nat) (A : Option Addr) (n cap : Nat) (w : World) (hn : l.length = n) (hr : Rd w A (u64s l)) (hcap : n ≤ cap) (hl : ∀ x ∈ l, x < 18446744073709551616) (hnl : n ≤ 9223372036854775806) (h : Cod.bnm l = (r, er)) :
    Calls Tryz.prog 13 #[.slice A n cap] w fun e w' => e = .returned (.tuple #[.string ⟨r.toArray⟩, .int .i64 er]) ∧ Ext w w' := by
  have h1 := bestNumbers_any l A n cap w hn hr hcap hl hnl; rw [h] at h1; exact h1
theorem cNumbers_of (l : List Nat) (r : List UInt8) (er : Nat) (A : Option Addr) (n cap : Nat) (way : Int) (w : World) (hn : l.length = n) (hr : Rd w A (u64s l)) (hcap : n ≤ cap) (hl : ∀ x ∈ l, x < 18446744073709551616) (hnl : n ≤ 9223372036854775806) (h : Cod.nmb l way = (r, er)) :
    Calls Tryz.prog 12 #[.slice A n cap, .int .i64 way] w fun e w' => e = .returned (.tuple #[.string ⟨r.toArray⟩, .int .i64 er]) ∧ Ext w w' := by
  have h1 := cNumbers_any l A n cap way w hn hr hcap hl hnl; rw [h] at h1; exact h1
theorem readNumbers_of (s : List UInt8) (many : Int) (l : List Nat) (er : Nat) (w : World) (hs : s.length ≤ 281474976710656) (h : Cod.rnm s many = (l, er)) :
    Calls Tryz.prog 17 #[.string ⟨s.toArray⟩, .int .i64 many] w (NumsOut l er w) := by
  have h1 := readNumbers_any ⟨s.toArray⟩ many w (by rw [str_size]; exact hs)
  rw [show (⟨s.toArray⟩ : ByteArray).data.toList = s from rfl, h] at h1; exact h1
theorem bestTexts_of (l : List (List UInt8)) (r : List UInt8) (er : Nat) (A : Option Addr) (n cap : Nat) (w : World) (hn : l.length = n) (hr : Rd w A (txs l)) (hnl : n ≤ 140737488355328) (h : Cod.btx l = (r, er)) :
    Calls Tryz.prog 28 #[.slice A n cap] w fun e w' => e = .returned (.tuple #[.string ⟨r.toArray⟩, .int .i64 er]) ∧ Ext w w' := by
  have h1 := bestTexts_any l A n cap w hn hr hnl; rw [h] at h1; exact h1
theorem readTexts_of (s : List UInt8) (many : Int) (l : List (List UInt8)) (er : Nat) (w : World) (hs : s.length ≤ 281474976710656) (h : Cod.rtx s many = (l, er)) :
    Calls Tryz.prog 18 #[.string ⟨s.toArray⟩, .int .i64 many] w (TextsOut l er w) := by
  have h1 := readTexts_any ⟨s.toArray⟩ many w (by rw [str_size]; exact hs)
  rw [show (⟨s.toArray⟩ : ByteArray).data.toList = s from rfl, h] at h1; exact h1
set_option maxRecDepth 100000 in
set_option maxHeartbeats 3200000 in
theorem codecBegun_any (w : World) : Calls Tryz.prog 16 #[] w fun e w' => e = .returned (.bool true) ∧ Ext w w' := by
  have HREP := hid (fun wx => crep_any 9 20 wx (by decide) (by decide))
  have HBN := hid (fun A cap wx (h : Rd wx A (u64s (List.replicate 20 9))) (hc : 20 ≤ cap) => bestNumbers_of _ _ _ A 20 cap wx (by rw [List.length_replicate]) h hc (by decide) (by decide) Cod.bnm_a)
  have HRN := hid (fun wx => readNumbers_of [2, 4, 40, 9] 20 _ _ wx (by decide) Cod.rnm_a)
  have HRN2 := hid (fun wx => readNumbers_of [5] 0 _ _ wx (by decide) Cod.rnm_b)
  have HNM := hid (fun wx => cNumbers_of [] [] 7 none 0 0 5 wx rfl (fun h => by simp [u64s] at h) (Nat.le_refl _) (by decide) (by decide) Cod.nmb_a)
  have HSN := hid (fun A B ca cb wx (h1 : Rd wx A (u64s (List.replicate 20 9))) (h2 : Rd wx B (u64s (List.replicate 20 9))) => sameNums_any (List.replicate 20 9) (List.replicate 20 9) A B 20 20 ca cb wx (by rw [List.length_replicate]) (by rw [List.length_replicate]) h1 h2 (by decide))
  rw [show sameNums (List.replicate 20 9) (List.replicate 20 9) = true by decide] at HSN
  have HL := hid (fun wx : World => rd_lit (w := wx) (g := wx.heap.size) (C := #[.string ⟨#[114, 111, 111, 107]⟩, .string ⟨#[119, 114, 101, 110]⟩, .string ⟨#[114, 111, 111, 107]⟩, .string ⟨#[114, 111, 111, 107]⟩, .string ⟨#[114, 111, 111, 107]⟩]) (e := 9) (fz := (0, 0)) (cs := txs [[114, 111, 111, 107], [119, 114, 101, 110], [114, 111, 111, 107], [114, 111, 111, 107], [114, 111, 111, 107]]) rfl rfl)
  have HBT := hid (fun A cap wx (h : Rd wx A (txs [[114, 111, 111, 107], [119, 114, 101, 110], [114, 111, 111, 107], [114, 111, 111, 107], [114, 111, 111, 107]])) => bestTexts_of _ _ _ A 5 cap wx rfl h (by decide) Cod.btx_a)
  have HRT := hid (fun wx => readTexts_of [6, 2, 2, 0, 4, 114, 111, 111, 107, 0, 4, 119, 114, 101, 110] 5 _ _ wx (by decide) Cod.rtx_a)
  have HST := hid (fun A B ca cb wx (h1 : Rd wx A (txs [[114, 111, 111, 107], [119, 114, 101, 110], [114, 111, 111, 107], [114, 111, 111, 107], [114, 111, 111, 107]])) (h2 : Rd wx B (txs [[114, 111, 111, 107], [119, 114, 101, 110], [114, 111, 111, 107], [114, 111, 111, 107], [114, 111, 111, 107]])) => sameTexts_any _ _ A B 5 5 ca cb wx rfl rfl h1 h2 (by decide))
  rw [show sameTexts [[114, 111, 111, 107], [119, 114, 101, 110], [114, 111, 111, 107], [114, 111, 111, 107], [114, 111, 111, 107]] [[114, 111, 111, 107], [119, 114, 101, 110], [114, 111, 111, 107], [114, 111, 111, 107], [114, 111, 111, 107]] = true from decide_eq_true rfl] at HST
  have hT : (txs [[114, 111, 111, 107], [119, 114, 101, 110], [114, 111, 111, 107], [114, 111, 111, 107], [114, 111, 111, 107]]).length = 5 := rfl
  have HLN := hid (show (List.replicate 20 9).length = 20 from List.length_replicate)
  unfold NumsOut at HRN HRN2
  unfold TextsOut at HRT
  rw [HLN.out] at HRN
  simp only [List.length_cons, List.length_nil, Nat.reduceAdd] at HRN2 HRT
  clear hT HLN
  generalize List.replicate 20 9 = L at *
  generalize htx : txs [[114, 111, 111, 107], [119, 114, 101, 110], [114, 111, 111, 107], [114, 111, 111, 107], [114, 111, 111, 107]] = M at *
  clear htx
  go_enter Tryz.func16, Tryz.ntmps16
  go_wp2_with fail
  refine Calls.mono (HREP.out _) ?_
  rintro e w1 ⟨A1, c1, rfl, h1, hx, hc⟩
  have Xp := hid hx
  have R1 := hid h1
  clear hx h1
  have HC := hid hc
  clear hc
  go_wp2_with fail
  refine Calls.mono (HBN.out _ _ _ R1.out HC.out) ?_
  rintro e w2 ⟨rfl, hx⟩
  replace Xp := hid (Xp.out.then hx)
  replace R1 := hid (R1.out.keep hx)
  clear hx 
  clear R1 HC
  go_wp2_with fail
  refine Calls.mono (HRN.out _) ?_
  rintro e w3 ⟨A2, c2, rfl, h1, hx⟩
  replace Xp := hid (Xp.out.then hx)
  have R2 := hid h1
  clear hx h1
  go_wp2_with fail
  have RL := hid (HL.out w3)
  replace Xp := hid (Ext.new Xp.out (.cells #[.string ⟨#[114, 111, 111, 107]⟩, .string ⟨#[119, 114, 101, 110]⟩, .string ⟨#[114, 111, 111, 107]⟩, .string ⟨#[114, 111, 111, 107]⟩, .string ⟨#[114, 111, 111, 107]⟩] 9))
  replace R2 := hid (R2.out.keep (Ext.new (ext_refl _) (.cells #[.string ⟨#[114, 111, 111, 107]⟩, .string ⟨#[119, 114, 101, 110]⟩, .string ⟨#[114, 111, 111, 107]⟩, .string ⟨#[114, 111, 111, 107]⟩, .string ⟨#[114, 111, 111, 107]⟩] 9)))
  refine Calls.mono (ctextsF_any _ 5 5 _) ?_
  rintro e _ ⟨rfl, rfl⟩
  go_wp2_with fail
  refine Calls.mono (HBT.out _ _ _ RL.out) ?_
  rintro e w5 ⟨rfl, hx⟩
  replace Xp := hid (Xp.out.then hx)
  replace R2 := hid (R2.out.keep hx)
  replace RL := hid (RL.out.keep hx)
  clear hx 
  clear RL
  go_wp2_with fail
  refine Calls.mono (HRT.out _) ?_
  rintro e w6 ⟨A3, c3, rfl, h1, hx⟩
  replace Xp := hid (Xp.out.then hx)
  replace R2 := hid (R2.out.keep hx)
  have R3 := hid h1
  clear hx h1
  go_wp2_with fail
  refine Calls.mono (HRN2.out _) ?_
  rintro e w7 ⟨A4, c4, rfl, _, hx⟩
  replace Xp := hid (Xp.out.then hx)
  replace R2 := hid (R2.out.keep hx)
  replace R3 := hid (R3.out.keep hx)
  clear hx 
  go_wp2_with fail
  refine Calls.mono (HNM.out _) ?_
  rintro e w8 ⟨rfl, hx⟩
  replace Xp := hid (Xp.out.then hx)
  replace R2 := hid (R2.out.keep hx)
  replace R3 := hid (R3.out.keep hx)
  clear hx 
  go_wp2_with fail
  refine Calls.mono (HREP.out _) ?_
  rintro e w9 ⟨A5, c5, rfl, h1, hx, _⟩
  replace Xp := hid (Xp.out.then hx)
  replace R2 := hid (R2.out.keep hx)
  replace R3 := hid (R3.out.keep hx)
  have R5 := hid h1
  clear hx h1
  go_wp2_with fail
  refine Calls.mono (HSN.out _ _ _ _ _ R2.out R5.out) ?_
  rintro e w10 ⟨rfl, hx⟩
  replace Xp := hid (Xp.out.then hx)
  replace R2 := hid (R2.out.keep hx)
  replace R3 := hid (R3.out.keep hx)
  replace R5 := hid (R5.out.keep hx)
  clear hx 
  go_wp2_with fail
  have RL := hid (HL.out w10)
  replace Xp := hid (Ext.new Xp.out (.cells #[.string ⟨#[114, 111, 111, 107]⟩, .string ⟨#[119, 114, 101, 110]⟩, .string ⟨#[114, 111, 111, 107]⟩, .string ⟨#[114, 111, 111, 107]⟩, .string ⟨#[114, 111, 111, 107]⟩] 9))
  replace R3 := hid (R3.out.keep (Ext.new (ext_refl _) (.cells #[.string ⟨#[114, 111, 111, 107]⟩, .string ⟨#[119, 114, 101, 110]⟩, .string ⟨#[114, 111, 111, 107]⟩, .string ⟨#[114, 111, 111, 107]⟩, .string ⟨#[114, 111, 111, 107]⟩] 9)))
  refine Calls.mono (ctextsF_any _ 5 5 _) ?_
  rintro e _ ⟨rfl, rfl⟩
  go_wp2_with fail
  refine Calls.mono (HST.out _ _ _ _ _ R3.out RL.out) ?_
  rintro e w12 ⟨rfl, hx⟩
  replace Xp := hid (Xp.out.then hx)
  clear hx 
  go_wp2
  go_returns
  exact ⟨rfl, Xp.out⟩
end Go.Proofs.YtdmmodeplfmpnaaGreat
end
