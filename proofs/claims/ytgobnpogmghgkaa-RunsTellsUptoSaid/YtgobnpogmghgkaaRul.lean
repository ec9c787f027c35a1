/- slices.Repeat of one number: walk. -/
import Derived.Test.YtgobnpogmghgkaaRow
import Derived.Laws.MakeOwn
import Derived.Laws.CopyOwn
import Derived.Deep.RegionLaw
import Derived.Test.YtgobnpogmghgkaaShelf
namespace Hy
open Go Go.RowKit
/-- a row of which the first a cells are V, the others Z -/
@[irreducible] def fill (V Z : Value) (a k : Nat) : List Value := List.replicate a V ++ List.replicate (k - a) Z
theorem fill_len (V Z : Value) (a k : Nat) (h : a ≤ k) : (fill V Z a k).length = k := by unfold fill; simp; omega
theorem fill_get (V Z : Value) (a k j : Nat) (h : j < a) : (fill V Z a k)[j]? = some V := by
  unfold fill; rw [List.getElem?_append_left (by simpa using h)]; simp [h]
theorem fill_all (V Z : Value) (k : Nat) : fill V Z k k = List.replicate k V := by unfold fill; simp
theorem fill_splice (V Z : Value) (a c k : Nat) (h : a + c ≤ k) : splice (fill V Z a k) a (List.replicate c V) = fill V Z (a + c) k := by
  unfold splice fill
  rw [List.take_left' (by simp), List.drop_append, List.length_replicate]
  rw [List.drop_of_length_le (by simp), List.length_replicate, List.nil_append, List.drop_replicate, show k - a - (a + c - a) = k - (a + c) by omega, ← List.append_assoc, List.replicate_append_replicate]
theorem made_one (x : Value) (n : Nat) : madeCells #[x] n = (List.replicate n x).toArray := by
  unfold madeCells
  apply Array.ext'
  apply List.ext_getElem <;> simp [Nat.mod_one]
end Hy
namespace Go.Proofs.Ytgobnpogmghgkaa
open Go.RowKit Hy
theorem info_u64 : (Try.prog.info? 46).map (fun i => (i.zero, i.size, i.bytes)) = some (some (.int .u64 0), 1, 8) := by kernel_rfl
theorem u64_made (k : Nat) (hk : k ≤ 1000000000000) (w : World) : (Instr.makeSlice 36 (.int .i64 (k : Int)) (.int .i64 (k : Int))).run Try.prog w =
    .ok (.slice (some ⟨w.heap.size, 0, none⟩) k k) (w.alloc (.cells (fill (.int .u64 0) (.int .u64 0) 0 k).toArray 46)) := by
  obtain ⟨i, hi, hz, hs, hb⟩ := info_parts info_u64
  rw [run_make w 36 46 i (.int .u64 0) Try.underlying36 hi hz .i64 .i64 (k : Int) (k : Int) (by omega) (by omega) (by rw [hb]; omega) (by omega)]
  rw [hs, Nat.mul_one, Int.toNat_natCast, show (Value.int .u64 0).cells = #[.int .u64 0] from rfl, made_one]
  unfold fill; simp
theorem mul_one' (k : Nat) (hk : (k : Int) ≤ 1000000000000) (w : World) : Calls Try.prog 58 #[.int .u64 1, .int .u64 (k : Int)] w fun e w' => e = .returned (.tuple #[.int .u64 0, .int .u64 (k : Int)]) ∧ w = w' := by
  refine (Try.bits_Mul 1 k (by decide) (by omega) w).mono ?_
  rintro e w' ⟨rfl, rfl⟩
  refine ⟨?_, rfl⟩
  rw [Nat.one_mul, Nat.div_eq_of_lt (by omega), Nat.mod_eq_of_lt (by omega)]
  rfl
set_option maxHeartbeats 2000000 in
theorem rep_any (b o c v k : Nat) (hk1 : 1 ≤ k) (hk : (k : Int) ≤ 1000000000000) (w : World) (hc : w.cell? ⟨b, o, none⟩ = some (.int .u64 (v : Int))) :
    Calls Try.prog 54 #[.slice (some ⟨b, o, none⟩) 1 c, .int .i64 (k : Int)] w fun e w' => ∃ g, e = .returned (.slice (some ⟨g, 0, none⟩) k k) ∧ Rd w' (some ⟨g, 0, none⟩) (List.replicate k (.int .u64 (v : Int))) ∧ Ext w w' := by
  have hkI : 1 ≤ (k : Int) := by omega
  have HK := hid hk1
  have hmk := u64_made k (by omega)
  have HS := hid (show (Try.prog.info? 46).map (·.size) = some 1 by kernel_rfl)
  have hcv : ∀ j u, (List.replicate 1 (Value.int .u64 (v : Int)))[j]? = some u → (w.alloc (.cells (fill (.int .u64 0) (.int .u64 0) 0 k).toArray 46)).cell? ((⟨b, o, none⟩ : Addr).add j) = some u := by
    intro j u hu
    obtain rfl : j = 0 := by
      have := (List.getElem?_eq_some_iff.1 hu).1; simpa using this
    simp at hu; subst hu
    rw [add_none]; exact ext_cell (Ext.new (ext_refl w) _) hc
  have HMN := hid (show (List.replicate 1 (Value.int .u64 (v : Int))).length = Nat.min 1 k by rw [List.length_replicate]; exact (Nat.min_eq_left hk1).symm)
  have HFT := hid (show 0 + (List.replicate 1 (Value.int .u64 (v : Int))).length ≤ (fill (.int .u64 0) (.int .u64 0) 0 k).length by rw [fill_len _ _ _ _ (by omega), List.length_replicate]; omega)
  have HBK := hid (show (w.alloc (.cells (fill (.int .u64 0) (.int .u64 0) 0 k).toArray 46)).heap[w.heap.size]? = some (.cells (fill (.int .u64 0) (.int .u64 0) 0 k).toArray 46 (0, 0)) from Blk.new w _ _)
  clear hk1
  go_enter Try.func54, Try.ntmps54
  go_wp2_with (first
    | (go_at_call 58; refine (mul_one' k hk _).mono ?_; rintro e w' ⟨rfl, rfl⟩)
    | (with_reducible (show wpList _ _ _ (⟨some 33, _, _, _, _, _⟩ :: _) _ _); go_loud (refine wpList_copy_splice rfl (.tmp 31) (.tmp 32) 36 36 rfl 46 Try.underlying36 HS.out _ _ _ _ _ _ rfl rfl w.heap.size 0 (fill (.int .u64 0) (.int .u64 0) 0 k) 46 HBK.out (List.replicate 1 (.int .u64 (v : Int))) HMN.out (fun _ => ⟨rfl, _, rfl, hcv⟩) HFT.out (by simp [Value.oneCell']) w.heap.size w (Ext.new (ext_refl w) _) (Nat.le_refl _) ?_; intro w2 HG HB)))
  have HG2 := hid (show w2.heap[w.heap.size]? = some (.cells (fill (.int .u64 (v : Int)) (.int .u64 0) 1 k).toArray 46 (0, 0)) by
    rw [HG.out, show fill (.int .u64 0) (.int .u64 0) 0 k = fill (.int .u64 (v : Int)) (.int .u64 0) 0 k by unfold fill; rfl, fill_splice _ _ _ _ _ (show 0 + 1 ≤ k from by rw [Nat.zero_add]; exact HK.out)])
  clear HG HBK HFT HMN hcv hmk hc
  go_loopw [8] (fun x wr => ∃ a : Nat, 1 ≤ a ∧ a ≤ k ∧ x = .int .i64 (a : Int) ∧ wr.heap[w.heap.size]? = some (.cells (fill (.int .u64 (v : Int)) (.int .u64 0) a k).toArray 46 (0, 0)) ∧ Below w.heap.size w wr) (fun x _ => k - (intOf x).toNat)
  case atStart => exact ⟨1, Nat.le_refl _, HK.out, rfl, HG2.out, HB⟩
  case round =>
    clear HG2 HB
    obtain ⟨a, ha1, hak, rfl, hg, hb⟩ := hrel
    have HG := hid hg
    have HBB := hid hb
    have HA1 := hid ha1
    have haI : 1 ≤ (a : Int) := by omega
    clear hg hb ha1
    by_cases hlt : a < k
    · obtain ⟨cc, hcc⟩ : ∃ cc, cc = Nat.min a (k - a) := ⟨_, rfl⟩
      have hcc0 : cc = min a (k - a) := hcc
      have hcc1 : 1 ≤ cc ∧ cc ≤ k - a ∧ cc ≤ a := by have := HA1.out; omega
      clear hcc0
      have HMN := hid (show (List.replicate cc (Value.int .u64 (v : Int))).length = Nat.min a (k - a) by rw [List.length_replicate, hcc])
      have HFT := hid (show a + (List.replicate cc (Value.int .u64 (v : Int))).length ≤ (fill (.int .u64 (v : Int)) (.int .u64 0) a k).length by rw [fill_len _ _ _ _ (by omega), List.length_replicate]; omega)
      have HCV := hid (fun (j : Nat) (u : Value) (hu : (List.replicate cc (Value.int .u64 (v : Int)))[j]? = some u) => show wr.cell? ((⟨w.heap.size, 0, none⟩ : Addr).add j) = some u by
        have hj := (List.getElem?_eq_some_iff.1 hu).1
        rw [List.length_replicate] at hj
        have hja : j < a := by omega
        have e1 : u = .int .u64 (v : Int) := by rw [List.getElem?_replicate_of_lt hj] at hu; exact (Option.some.inj hu).symm
        subst e1
        rw [add_none, Nat.zero_add, (show Blk wr w.heap.size _ _ from HG.out).cell, List.getElem?_toArray, fill_get _ _ _ _ _ hja])
      have HCC := hid hcc1
      have hccI : 1 ≤ (cc : Int) ∧ (cc : Int) ≤ k - a := by omega
      have hfit2 : a + cc ≤ k := by omega
      have HFIT := hid hfit2
      obtain ⟨m2, hm2⟩ : ∃ m2, m2 = a + cc := ⟨_, rfl⟩
      have hw2 : IntKind.i64.wrap ((a : Int) + (cc : Int)) = (m2 : Int) := by rw [IntKind.wrap_i64]; omega
      have HM2 := hid hm2
      clear hcc hcc1 hfit2 hm2
      go_wp2
      go_region_law (go_loud (refine step_copy_splice rfl (.tmp 41) (.tmp 44) 36 36 rfl 46 Try.underlying36 HS.out (some ⟨w.heap.size, a, none⟩) (some ⟨w.heap.size, 0, none⟩) (k - a) (k - a) a k (by simp [Act.eval, Act.put]; omega) (by simp [Act.eval, Act.put]) w.heap.size a (fill (.int .u64 (v : Int)) (.int .u64 0) a k) 46 HG.out (List.replicate cc (.int .u64 (v : Int))) HMN.out (fun _ => ⟨rfl, _, rfl, HCV.out⟩) HFT.out (by simp [Value.oneCell']) w.heap.size w (below_drewN HBB.out _) (Nat.le_refl _) ?_; intro w4 hg4 hb4))
      have HG5 := hid (show w4.heap[w.heap.size]? = some (.cells (fill (.int .u64 (v : Int)) (.int .u64 0) (a + cc) k).toArray 46 (0, 0)) by rw [hg4.out, fill_splice _ _ _ _ _ HFIT.out])
      have HB4 := hid hb4
      clear hg4 hb4
      go_wp2
      go_roundw
      case rel => exact ⟨m2, by have := HM2.out; omega, by have := HM2.out; have := HFIT.out; omega, rfl, by rw [HM2.out]; exact HG5.out, HB4.out⟩
      case measure => have := HM2.out; simp [intOf]; omega
    · obtain rfl : a = k := by omega
      go_wp2
      go_returns
      refine ⟨w.heap.size, rfl, fun _ => ⟨w.heap.size, 0, rfl, (show Blk wr w.heap.size _ _ from HG.out).lt, fun j u hu => ?_⟩, HBB.out⟩
      rw [Nat.zero_add, (show Blk wr w.heap.size _ _ from HG.out).cell, List.getElem?_toArray, fill_all]; exact hu
end Go.Proofs.Ytgobnpogmghgkaa
