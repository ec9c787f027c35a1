/- rank.Count: walks. -/
import Derived.Test.YtikdmnedbfpkeaaDoorWof
namespace Hy
open Go Go.RowKit
theorem Blk.rd {w : World} {g : Nat} {t : TypeId} {cs : List Value} (h : Blk w g t cs.toArray) : Rd w (some ⟨g, 0, none⟩) cs := fun _ => by
  refine ⟨g, 0, rfl, h.lt, fun j u hu => ?_⟩
  rw [Nat.zero_add, h.cell j, List.getElem?_toArray]; exact hu
theorem Rd.u64 {w : World} {A : Option Addr} {l : List Nat} (h : Rd w A (u64s l)) (hp : 0 < l.length) :
    ∃ b o, A = some ⟨b, o, none⟩ ∧ b < w.heap.size ∧ ∀ k (hk : k < l.length), w.cell? ⟨b, o + k, none⟩ = some (.int .u64 (l[k] : Nat)) := by
  obtain ⟨b, o, e, hb, hc⟩ := h (by unfold u64s; rw [List.length_map]; exact hp)
  exact ⟨b, o, e, hb, fun k hk => hc k _ (by unfold u64s; simp [hk])⟩
end Hy
namespace Go.Proofs.YtikdmnedbfpkeaaDoor
open Go.RowKit Hy
set_option maxHeartbeats 1000000 in
theorem wcount_any (L : List Nat) (A : Option Addr) (n cap : Nat) (w : World) (hn : L.length = n) (hr : Rd w A (u64s L)) (hL : ∀ x ∈ L, x < 18446744073709551616) (hnl : n ≤ 4398046511104) :
    Calls Tryd.prog 32 #[.slice A n cap] w fun e w' => e = .returned (.int .i64 (((L.map Pop.o64).sum : Nat) : Int)) ∧ w = w' := by
  have HN := hid hn; have HRR := hid hr; have HL := hid hL
  have hn2 : (n : Int) ≤ 4398046511104 := by omega
  clear hn hr hL
  go_enter Tryd.func32, Tryd.ntmps32
  go_wp2
  go_loop [3, 8] (fun s c => ∃ i : Nat, i ≤ n ∧ c = .int .i64 i ∧ s = .int .i64 ((((L.take i).map Pop.o64).sum : Nat) : Int)) (fun _ c => n - (intOf c).toNat)
  case atStart => exact ⟨0, Nat.zero_le _, rfl, rfl⟩
  case round =>
    obtain ⟨i, hi, rfl, rfl⟩ := hrel
    by_cases hlt : i < n
    · have hia : i < L.length := by rw [HN.out]; exact hlt
      obtain ⟨b1, o1, e1, l1, c1⟩ := HRR.out.u64 (by omega)
      subst e1
      have d0 := c1 i hia
      have HS := hid (Mk.sum_take L i hia)
      have hle := Mk.sum_le (L.take i)
      have hlen : (L.take i).length ≤ i := List.length_take_le _ _
      have hpb := Pop.o64_le L[i]
      have HC := hid (fun w => onesCount_any L[i] (HL.out _ (List.getElem_mem hia)) w)
      obtain ⟨x, hx⟩ : ∃ x, x = L[i] := ⟨_, rfl⟩
      rw [← hx] at d0 HS HC hpb
      obtain ⟨p, hp⟩ : ∃ p, p = Pop.o64 x := ⟨_, rfl⟩
      rw [← hp] at HS HC hpb
      generalize ((L.take i).map Pop.o64).sum = S at *
      have hS : (S : Int) ≤ 281474976710656 := by omega
      have hp2 : (p : Int) ≤ 64 := by omega
      clear hle hlen hpb c1 hia hx hp
      go_wp2_with fail
      refine Calls.mono (HC.out _) ?_
      rintro e _ ⟨rfl, rfl⟩
      go_wp2
      go_round
      case rel => exact ⟨i + 1, by omega, by go_num, by rw [HS.out]; go_num⟩
      case measure => simp [intOf]; omega
    · have hin : i = n := by omega
      subst hin
      have hl : L.take i = L := List.take_of_length_le (by rw [HN.out]; exact Nat.le_refl _)
      rw [hl]
      go_wp2
      go_returns
      exact ⟨rfl, rfl⟩
theorem count_any (l : List Bool) (A : Option Addr) (n cap : Nat) (w : World) (hn : l.length = n) (hr : Rd w A (bls l)) (hnl : n ≤ 140737488355328) :
    Calls Tryd.prog 14 #[.slice A n cap] w fun e w' => e = .returned (.int .i64 ((l.count true : Nat) : Int)) ∧ Ext w w' := by
  have HW := hid (wordsOf_any l A n cap w hn hr hnl)
  have HN := hid hn
  have HC := hid (fun g wx (hB : Blk wx g 49 (u64s (Mk.wordsL l)).toArray) => wcount_any (Mk.wordsL l) (some ⟨g, 0, none⟩) ((n + 63) / 64) ((n + 63) / 64) wx (by rw [Mk.wordsL_len, hn]) hB.rd (Mk.wordsL_lt l) (by omega))
  clear hn hr hnl
  go_enter Tryd.func14, Tryd.ntmps14
  go_wp2_with fail
  refine Calls.mono HW.out ?_
  rintro e w1 ⟨g, rfl, hB, _, hx⟩
  have HX := hid hx
  have HC1 := hid (HC.out g w1 hB)
  clear hB hx
  go_wp2_with fail
  refine Calls.mono HC1.out ?_
  rintro e _ ⟨rfl, rfl⟩
  go_wp2
  go_returns
  exact ⟨by rw [Mk.sum_words]; rfl, HX.out⟩
end Go.Proofs.YtikdmnedbfpkeaaDoor
