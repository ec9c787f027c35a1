/- rank.Count: marks as words, the ones of words: walks. -/
import Derived.Test.YtikdmnedbfpkeaaDoorMkp
import Derived.Test.YtikdmnedbfpkeaaDoorOnc
import Derived.Test.YtikdmnedbfpkeaaDoorRows
import Derived.Laws.MakeOwn
namespace Hy
open Go Go.RowKit
theorem made_one (x : Value) (n : Nat) : madeCells #[x] n = (List.replicate n x).toArray := by
  unfold madeCells
  apply Array.ext'
  apply List.ext_getElem <;> simp [Nat.mod_one]
def bls (l : List Bool) : List Value := l.map Value.bool
theorem bls_len (l : List Bool) : (bls l).length = l.length := List.length_map _
theorem bls_get (l : List Bool) (k : Nat) (h : k < l.length) : (bls l)[k]? = some (.bool l[k]) := by unfold bls; simp [h]
theorem Rd.bool {w : World} {A : Option Addr} {l : List Bool} (h : Rd w A (bls l)) (hp : 0 < l.length) :
    ∃ b o, A = some ⟨b, o, none⟩ ∧ b < w.heap.size ∧ ∀ k (hk : k < l.length), w.cell? ⟨b, o + k, none⟩ = some (.bool l[k]) := by
  obtain ⟨b, o, e, hb, hc⟩ := h (by rw [bls_len]; exact hp)
  exact ⟨b, o, e, hb, fun k hk => hc k _ (bls_get l k hk)⟩
end Hy
namespace Go.Proofs.YtikdmnedbfpkeaaDoor
open Go.RowKit Hy
theorem info_u64 : (Tryd.prog.info? 49).map (fun i => (i.zero, i.size, i.bytes)) = some (some (.int .u64 0), 1, 8) := by kernel_rfl
theorem words_made (k : Nat) (hk : k ≤ 4398046511104) (w : World) : (Instr.makeSlice 47 (.int .i64 (k : Int)) (.int .i64 (k : Int))).run Tryd.prog w =
    .ok (.slice (some ⟨w.heap.size, 0, none⟩) k k) (w.alloc (.cells (Mk.rowW k []).toArray 49)) := by
  obtain ⟨i, hi, hz, hs, hb⟩ := info_parts info_u64
  rw [run_make w 47 49 i (.int .u64 0) (by kernel_rfl) hi hz .i64 .i64 (k : Int) (k : Int) (by omega) (by omega) (by rw [hb]; omega) (by omega)]
  rw [hs, Nat.mul_one, Int.toNat_natCast, show (Value.int .u64 0).cells = #[.int .u64 0] from rfl, made_one, Mk.rowW_nil]
set_option maxHeartbeats 1000000 in
theorem wordsOf_any (l : List Bool) (A : Option Addr) (n cap : Nat) (w : World) (hn : l.length = n) (hr : Rd w A (bls l)) (hnl : n ≤ 140737488355328) :
    Calls Tryd.prog 28 #[.slice A n cap] w fun e w' => ∃ g, e = .returned (.slice (some ⟨g, 0, none⟩) ((n + 63) / 64) ((n + 63) / 64)) ∧ Blk w' g 49 (u64s (Mk.wordsL l)).toArray ∧ w.heap.size ≤ g ∧ Ext w w' := by
  obtain ⟨W, hW⟩ : ∃ W, W = (n + 63) / 64 := ⟨_, rfl⟩
  have hw1 : (W : Int) = ((n : Int) + 63) / 64 := by omega
  have HM := hid (words_made W (by omega))
  have hn2 : (n : Int) ≤ 140737488355328 := by omega
  have HW := hid hW
  have HN := hid hn
  have HRR := hid hr
  have HWI := hid hw1
  rw [← hW]
  clear hW hn hr hw1
  go_enter Tryd.func28, Tryd.ntmps28
  have hm := HM.out
  have hw1 := HWI.out.symm
  go_wp2
  clear hm hw1
  go_loopw [13] (fun c wr => ∃ i : Nat, i ≤ n ∧ c = .int .i64 i ∧ Blk wr w.heap.size 49 (Mk.rowW W (l.take i)).toArray ∧ Ext w wr) (fun c _ => n - (intOf c).toNat)
  case atStart => exact ⟨0, Nat.zero_le _, rfl, Blk.new w _ _, (ext_refl w).new _⟩
  case round =>
    obtain ⟨i, hi, rfl, B, X⟩ := hrel
    by_cases hlt : i < n
    · have hia : i < l.length := by rw [HN.out]; exact hlt
      obtain ⟨b1, o1, e1, l1, c1⟩ := HRR.out.bool (by omega)
      subst e1
      have d0 := (X.cell (p := ⟨b1, o1 + i, none⟩) l1).trans (c1 i hia)
      obtain ⟨b, hb⟩ : ∃ b, b = l[i] := ⟨_, rfl⟩
      rw [← hb] at d0
      have HX := hid X
      have HB := hid B
      cases b with
      | false =>
        have HE := hid (Mk.rowW_no W l i hia hb.symm)
        clear hia l1 c1 hb X B
        go_wp2
        go_roundw
        case rel => exact ⟨i + 1, by omega, by go_num, by rw [HE.out]; exact HB.out, HX.out⟩
        case measure => simp [intOf]; omega
      | true =>
        obtain ⟨j, hj⟩ : ∃ j, j = i / 64 := ⟨_, rfl⟩
        obtain ⟨h, hh⟩ : ∃ h, h = i % 64 := ⟨_, rfl⟩
        have hjW : j < W := by have := HW.out; omega
        have HE := hid (Mk.rowW_yes W l i hia hb.symm)
        have hroom := Mk.wd_room l i (by omega)
        have hcell := B.cell j
        rw [List.getElem?_toArray, Mk.rowW_get _ _ _ hjW] at hcell
        have hfz := B.frozen j
        rw [← hj, ← hh] at HE hroom
        obtain ⟨a, ha⟩ : ∃ a, a = Mk.wd (l.take i) j := ⟨_, rfl⟩
        rw [← ha] at HE hroom hcell
        have hpow : 2 ^ h ≤ 2 ^ 63 := Nat.pow_le_pow_right (by decide) (by omega)
        have hw1 : IntKind.u64.wrap ((2 : Int) ^ h) = ((2 ^ h : Nat) : Int) := by
          show ((2 : Int) ^ h) % 18446744073709551616 = _
          rw [show (2 : Int) ^ h = ((2 ^ h : Nat) : Int) from by simp]; omega
        have hw2 : bits .or .u64 (a : Int) ((2 ^ h : Nat) : Int) = ((a + 2 ^ h : Nat) : Int) := by
          have h3 : a ||| 2 ^ h = a + 2 ^ h := by
            have := Nat.two_pow_add_eq_or_of_lt (i := h) (b := a) hroom 1
            rw [Nat.mul_one] at this
            rw [Nat.or_comm, ← this, Nat.add_comm]
          have hx : a + 2 ^ h < 18446744073709551616 := by omega
          show IntKind.u64.wrap ((BitVec.ofInt 64 (a : Int) ||| BitVec.ofInt 64 ((2 ^ h : Nat) : Int)).toNat : Int) = _
          rw [BitVec.toNat_or, BitVec.ofInt_natCast, BitVec.ofInt_natCast, BitVec.toNat_ofNat, BitVec.toNat_ofNat, Nat.mod_eq_of_lt (a := a) (by omega), Nat.mod_eq_of_lt (a := 2 ^ h) (by omega), h3, IntKind.wrap_u64]
          omega
        obtain ⟨P2, hP2⟩ : ∃ P2 : Int, P2 = ((2 ^ h : Nat) : Int) := ⟨_, rfl⟩
        obtain ⟨z, hz⟩ : ∃ z : Nat, z = a + 2 ^ h := ⟨_, rfl⟩
        rw [← hP2] at hw1
        rw [← hP2, ← hz] at hw2
        rw [← hz] at HE
        have hd1 : ((i : Int) / 64) = (j : Int) := by omega
        have hd2 : ((i : Int) % 64) = (h : Int) := by omega
        have hd3 : ((i : Int).tdiv 64) = (j : Int) := by rw [Int.tdiv_eq_ediv_of_nonneg (by omega)]; exact hd1
        have hd4 : ((i : Int).tmod 64) = (h : Int) := by rw [Int.tmod_eq_emod_of_nonneg (by omega)]; exact hd2
        have hh0 : (0 : Int) ≤ (h : Int) := by omega
        have hh64 : (h : Int) < 64 := by omega
        have hj0 : (0 : Int) ≤ (j : Int) := by omega
        have hjWI : (j : Int) < (W : Int) := by omega
        have hwj : IntKind.i64.wrap (j : Int) = (j : Int) := by rw [IntKind.wrap_i64]; omega
        have hwh : IntKind.i64.wrap (h : Int) = (h : Int) := by rw [IntKind.wrap_i64]; omega
        clear hia l1 c1 hb X B hroom hpow hP2 hz ha hj hh
        have HX1 := hid (HX.out.draw.put (p := ⟨w.heap.size, j, none⟩) (Nat.le_refl _) (.int .u64 (z : Nat)))
        have HB1 := hid (HB.out.drew.set j (.int .u64 (z : Nat)))
        go_wp2_with fail
        go_still_tail 10, (by kernel_rfl)
        change wpList _ _ _ _ _ wr.drew
        clear hd1 hd2 hd3 hd4 hw1 hw2 hwj hwh
        go_wp2
        go_roundw
        case rel => exact ⟨i + 1, by omega, by go_num, by rw [← HE.out, ← List.setIfInBounds_toArray]; exact HB1.out, HX1.out⟩
        case measure => simp [intOf]; omega
    · have hin : i = n := by omega
      subst hin
      have HX := hid X
      have hl : l.take i = l := List.take_of_length_le (by rw [HN.out]; exact Nat.le_refl _)
      rw [hl] at B
      have HB := hid (show Blk wr w.heap.size 49 (u64s (Mk.wordsL l)).toArray from by rw [Mk.u64s_words, HN.out, ← HW.out]; exact B)
      clear B X hl
      go_wp2
      go_returns
      exact ⟨_, rfl, HB.out, Nat.le_refl _, HX.out⟩
end Go.Proofs.YtikdmnedbfpkeaaDoor
