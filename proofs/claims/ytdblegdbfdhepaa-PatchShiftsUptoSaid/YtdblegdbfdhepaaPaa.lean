/- Patch: slices.Min, out, framed; the document's BaseOf: walks. -/
import Derived.Test.YtdblegdbfdhepaaPap
import Derived.Test.YtdblegdbfdhepaaBiw
import Derived.Test.YtdblegdbfdhepaaRow
namespace Hy
open Go
theorem take_succ_snoc' {l : List Nat} {i x : Nat} (hx : l[i]? = some x) : l.take (i + 1) = l.take i ++ [x] := by rw [List.take_add_one, hx]; rfl
theorem take_ne {l : List Nat} {i : Nat} (h : 1 ≤ i) (hl : i ≤ l.length) : l.take i ≠ [] := fun e => by
  have h1 := congrArg List.length e
  rw [List.length_take, List.length_nil] at h1; omega
theorem Rd.num00 {w : World} {A : Option Addr} {l : List Nat} (h : Rd w A (u64s l)) (hp : 0 < l.length) :
    ∃ b o, A = some ⟨b, o, none⟩ ∧ b < w.heap.size ∧ ∀ (k x : Nat), l[k]? = some x → w.cell? ⟨b, o + k, none⟩ = some (.int .u64 (x : Int)) := by
  obtain ⟨b, o, e, hb, hc⟩ := h (by rw [u64s_len]; exact hp)
  exact ⟨b, o, e, hb, fun k x hk => hc k _ (by simp [u64s, hk])⟩
end Hy
namespace Go.Proofs.Ytdblegdbfdhepaa
open Go.RowKit Hy
set_option maxHeartbeats 400000 in
theorem min_any (l : List Nat) (A : Option Addr) (n cap : Nat) (w : World) (hn : l.length = n) (hr : Rd w A (u64s l)) (hl : ∀ x ∈ l, x < 18446744073709551616) (h1 : 1 ≤ n) (hnl : n ≤ 64) :
    Calls Try.prog 89 #[.slice A n cap] w fun e w' => e = .returned (.int .u64 (Pat.bas l : Nat)) ∧ w = w' := by
  obtain ⟨b1, o1, rfl, l1, c1⟩ := hr.num00 (by omega)
  obtain ⟨x0, hx0⟩ : ∃ x, l[0]? = some x := ⟨_, List.getElem?_eq_getElem (by omega)⟩
  have d00 := c1 0 x0 hx0
  rw [Nat.add_zero] at d00
  have HB0 := hid (show Pat.bas (l.take 1) = x0 by rw [take_succ_snoc' hx0]; rfl)
  have hx0I : (x0 : Int) ≤ 18446744073709551615 := by have := hl x0 (List.mem_of_getElem? hx0); omega
  have hnI : (n : Int) ≤ 64 := by omega
  have hn1 : (1 : Int) ≤ (n : Int) := by omega
  have HN := hid hn
  have HL := hid hl
  have H1 := hid h1
  have C1 := hid c1
  clear hr hn hl c1 hx0 h1 hnl
  go_enter Try.func89, Try.ntmps89
  go_wp2
  go_loop [3, 4] (fun m c => ∃ i : Nat, 1 ≤ i ∧ i ≤ n ∧ c = .int .i64 i ∧ m = .int .u64 (Pat.bas (l.take i) : Nat)) (fun _ c => n - (intOf c).toNat)
  case atStart => exact ⟨1, Nat.le_refl _, H1.out, rfl, by rw [HB0.out]⟩
  case round =>
    obtain ⟨i, hi1, hi, rfl, rfl⟩ := hrel
    by_cases hlt : i < n
    · have hltI : (i : Int) < (n : Int) := by omega
      obtain ⟨x, hx⟩ : ∃ x, l[i]? = some x := ⟨_, List.getElem?_eq_getElem (by rw [HN.out]; exact hlt)⟩
      have hxl := HL.out x (List.mem_of_getElem? hx)
      have d0 := C1.out i x hx
      have HS := hid (show Pat.bas (l.take (i + 1)) = min (Pat.bas (l.take i)) x by rw [take_succ_snoc' hx, Pat.bas_snoc _ _ (take_ne hi1 (by rw [HN.out]; exact hi))])
      have hp := Pat.bas_lt (l.take i) (fun z hz => HL.out z (List.mem_of_mem_take hz))
      generalize Pat.bas (l.take i) = p at *
      have hpI : (p : Int) ≤ 18446744073709551615 := by omega
      have hxI : (x : Int) ≤ 18446744073709551615 := by omega
      obtain ⟨z, hz⟩ : ∃ z, z = min p x := ⟨_, rfl⟩
      rw [← hz] at HS
      have hzI : min (p : Int) (x : Int) = (z : Int) := by omega
      clear hx hxl hp hz
      go_wp2
      go_round
      case rel => exact ⟨i + 1, by omega, by omega, by go_num, by rw [HS.out]⟩
      case measure => simp [intOf]; omega
    · obtain rfl : i = n := by omega
      have hti : l.take i = l := List.take_of_length_le (by rw [HN.out]; exact Nat.le_refl _)
      rw [hti]
      go_wp2
      go_returns
      exact ⟨rfl, rfl⟩
theorem out_any (x wd : Nat) (w : World) (hx : x < 18446744073709551616) : Calls Try.prog 67 #[.int .u64 x, .int .i64 wd] w fun e w' => e = .returned (.bool (decide (wd < Lib.bitLen x))) ∧ w = w' := by
  have CL := fun wx : World => Try.bits_Len64 (x : Int) wx (by omega) (by omega)
  rw [Int.toNat_natCast] at CL
  go_enter Try.func67, Try.ntmps67
  go_wp2_with fail
  refine Calls.mono (CL _) ?_
  rintro e _ ⟨rfl, rfl⟩
  go_wp2
  go_returns
  exact ⟨by simp, rfl⟩
set_option maxHeartbeats 400000 in
theorem baseOf_any (l : List Nat) (A : Option Addr) (n cap : Nat) (w : World) (hn : l.length = n) (hr : Rd w A (u64s l)) (hl : ∀ x ∈ l, x < 18446744073709551616) (hnl : n ≤ 64) :
    Calls Try.prog 38 #[.slice A n cap] w fun e w' => e = .returned (.int .u64 (Pat.bas l : Nat)) ∧ w = w' := by
  have hnI : (n : Int) ≤ 64 := by omega
  rcases Nat.eq_zero_or_pos n with h0 | h0
  · subst h0
    obtain rfl := List.length_eq_zero_iff.1 hn
    clear hr hn hl hnl
    go_enter Try.func38, Try.ntmps38
    go_wp2
    go_returns
    exact ⟨rfl, rfl⟩
  obtain ⟨b1, o1, rfl, l1, c1⟩ := hr.num00 (by omega)
  obtain ⟨x0, hx0⟩ : ∃ x, l[0]? = some x := ⟨_, List.getElem?_eq_getElem (by omega)⟩
  have d00 := c1 0 x0 hx0
  rw [Nat.add_zero] at d00
  have HB0 := hid (show Pat.bas (l.take 1) = x0 by rw [take_succ_snoc' hx0]; rfl)
  have hx0I : (x0 : Int) ≤ 18446744073709551615 := by have := hl x0 (List.mem_of_getElem? hx0); omega
  have hn1 : (1 : Int) ≤ (n : Int) := by omega
  have HN := hid hn
  have HL := hid hl
  have H1 := hid h0
  have C1 := hid c1
  have HX0 := hid hx0
  clear hr hn hl c1 hx0 h0 hnl
  go_enter Try.func38, Try.ntmps38
  go_wp2
  go_loop [3, 4] (fun m c => ∃ i p : Nat, i ≤ n ∧ c = .int .i64 i ∧ m = .int .u64 p ∧ Hid (p = Pat.bas (l.take (max 1 i))) ∧ p < 18446744073709551616) (fun _ c => n - (intOf c).toNat)
  case atStart => exact ⟨0, x0, Nat.zero_le _, rfl, rfl, hid (by rw [Nat.max_eq_left (by omega), HB0.out]), by omega⟩
  case round =>
    obtain ⟨i, p, hi, rfl, rfl, HP, hp⟩ := hrel
    by_cases hlt : i < n
    · have hltI : (i : Int) < (n : Int) := by omega
      obtain ⟨x, hx⟩ : ∃ x, l[i]? = some x := ⟨_, List.getElem?_eq_getElem (by rw [HN.out]; exact hlt)⟩
      have hxl := HL.out x (List.mem_of_getElem? hx)
      have d0 := C1.out i x hx
      have HS := hid (show Pat.bas (l.take (max 1 (i + 1))) = min p x by
        rw [Nat.max_eq_right (by omega)]
        rcases Nat.eq_zero_or_pos i with h | h
        · subst h
          have hp0 := HP.out
          rw [Nat.max_eq_left (by omega), HB0.out] at hp0
          have := HX0.out
          rw [hx] at this
          injection this with this
          show Pat.bas (l.take 1) = _
          rw [HB0.out, hp0, this, Nat.min_self]
        · have hp0 := HP.out
          rw [Nat.max_eq_right h] at hp0
          rw [take_succ_snoc' hx, Pat.bas_snoc _ _ (take_ne h (by rw [HN.out]; exact hi)), ← hp0])
      have hpI : (p : Int) ≤ 18446744073709551615 := by omega
      have hxI : (x : Int) ≤ 18446744073709551615 := by omega
      by_cases hxp : x < p
      · have hxpI : (x : Int) < (p : Int) := by omega
        have HM := hid (show min p x = x by omega)
        have HXL := hid hxl
        clear hx hxl hp hxp
        go_wp2
        go_round
        case rel => exact ⟨i + 1, x, by omega, by go_num, rfl, hid (by rw [HS.out, HM.out]), HXL.out⟩
        case measure => simp [intOf]; omega
      · have hxpI : ¬ (x : Int) < (p : Int) := by omega
        have HM := hid (show min p x = p by omega)
        have HPL := hid hp
        clear hx hxl hp hxp
        go_wp2
        go_round
        case rel => exact ⟨i + 1, p, by omega, by go_num, rfl, hid (by rw [HS.out, HM.out]), HPL.out⟩
        case measure => simp [intOf]; omega
    · obtain rfl : i = n := by omega
      have HE := hid (show p = Pat.bas l by rw [HP.out, Nat.max_eq_right H1.out, List.take_of_length_le (by rw [HN.out]; exact Nat.le_refl _)])
      clear hp
      go_wp2
      go_returns
      exact ⟨by rw [← HE.out]; rfl, rfl⟩
end Go.Proofs.Ytdblegdbfdhepaa
