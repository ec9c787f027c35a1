/- Patch: framed, cost: walks. -/
import Derived.Test.YtdblegdbfdhepaaPaa
import Derived.Test.YtdblegdbfdhepaaVaw
import Derived.Test.YtdblegdbfdhepaaSto
import Derived.Test.YtdblegdbfdhepaaGro
namespace Go.Proofs.Ytdblegdbfdhepaa
open Go.RowKit Hy
set_option maxHeartbeats 1000000 in
theorem cost_any (M : List Nat) (B : Option Addr) (n c wd base : Nat) (w : World) (hn : M.length = n) (hr : Rd w B (u64s M)) (hl : ∀ x ∈ M, x < 18446744073709551616) (hnl : n ≤ 64) (hwd : wd ≤ 64) :
    Calls Try.prog 64 #[.agg #[.int .u64 base, .slice B n c], .int .i64 wd] w fun e w' => e = .returned (.int .i64 ((Bits.size n wd + Pat.xt wd M : Nat) : Int)) ∧ Ext w w' := by
  obtain ⟨p, hp⟩ : ∃ p, p = n * wd := ⟨_, rfl⟩
  have hmul : (n : Int) * (wd : Int) = (p : Int) := by rw [hp]; simp
  have hpb : p ≤ 64 * 64 := by rw [hp]; exact Nat.mul_le_mul hnl hwd
  have hpI : (p : Int) ≤ 4096 := by omega
  obtain ⟨z, hz⟩ : ∃ z, z = Bits.size n wd := ⟨_, rfl⟩
  have hz2 : z = (p + 7) / 8 := by rw [hz, hp]; rfl
  have hq1 : ((p : Int) + 7).tdiv 8 = (z : Int) := by rw [Int.tdiv_eq_ediv_of_nonneg (by omega)]; omega
  have hq2 : ((p : Int) + 7) / 8 = (z : Int) := by omega
  have hzI : (z : Int) ≤ 512 := by omega
  have hnI : (n : Int) ≤ 64 := by omega
  have hwI : (wd : Int) ≤ 64 := by omega
  rw [← hz]
  have HR := hid hr
  have HN := hid hn
  have HL := hid hl
  have HNL := hid hnl
  have B0 := (Blk.new w 67 #[.int .u64 (base : Int), .slice B n c]).cell
  have p1 : (w.alloc (.cells #[.int .u64 (base : Int), .slice B n c] 67)).cell? ⟨w.heap.size, 1, none⟩ = some (.slice B n c) := B0 1
  clear hr hn hl hnl hp hpb hz hz2 hwd B0
  go_enter Try.func64, Try.ntmps64
  go_wp2
  go_loopw [5, 7, 18] (fun t _ q wr => ∃ i : Nat, i ≤ n ∧ q = .int .i64 i ∧ t = .int .i64 ((z + Pat.xt wd (M.take i) : Nat) : Int) ∧ Ext w wr) (fun _ _ q _ => n - (intOf q).toNat)
  case atStart => exact ⟨0, Nat.zero_le _, rfl, rfl, (ext_refl w).new _⟩
  case round =>
    obtain ⟨i, hi, rfl, rfl, X⟩ := hrel
    have hx1 := Pat.xt_le wd (M.take i)
    have hti : (M.take i).length = i := by rw [List.length_take, HN.out]; omega
    rw [hti] at hx1
    by_cases hlt : i < n
    · have hltI : (i : Int) < (n : Int) := by omega
      obtain ⟨x, hx⟩ : ∃ x, M[i]? = some x := ⟨_, List.getElem?_eq_getElem (by rw [HN.out]; exact hlt)⟩
      have hxl := HL.out x (List.mem_of_getElem? hx)
      obtain ⟨b1, o1, rfl, l1, c1⟩ := HR.out.num00 (by rw [HN.out]; omega)
      have d0 := (X.cell (p := ⟨b1, o1 + i, none⟩) l1).trans (c1 i x hx)
      have HS := hid (show Pat.xt wd (M.take (i + 1)) = Pat.xt wd (M.take i) + Pat.one wd x by rw [take_succ_snoc' hx, Pat.xt_snoc])
      have CO := hid (fun wx => out_any x wd wx hxl)
      have CW := hid (fun wx => write_any x wx hxl)
      have hxI : (x : Int) ≤ 18446744073709551615 := by omega
      generalize Pat.xt wd (M.take i) = acc at *
      have haI : (acc : Int) ≤ 640 := by have := HNL.out; omega
      have ha0 : (0 : Int) ≤ (acc : Int) := by omega
      by_cases ho : wd < Lib.bitLen x
      · rw [decide_eq_true ho] at CO
        obtain ⟨S, hS⟩ : ∃ S : ByteArray, S = ⟨(Vary.wr x).toArray⟩ := ⟨_, rfl⟩
        have hSs : S.size = (Vary.wr x).length := by rw [hS, str_size]
        have hS9 : (S.size : Int) ≤ 9 := by rw [hSs, Vary.wr_len]; have := Vary.beh_le8 x; omega
        have HO := hid (show Pat.one wd x = 1 + S.size by unfold Pat.one; rw [if_pos ho, hSs])
        rw [← hS] at CW
        clear c1 hx hxl ho hS hSs hx1 hti
        go_wp2_with fail
        refine Calls.mono (CO.out _) ?_
        rintro e _ ⟨rfl, rfl⟩
        go_wp2_with fail
        refine Calls.mono (CW.out _) ?_
        rintro e w2 ⟨rfl, hx⟩
        have X2 := X.then hx
        clear hx
        go_wp2
        go_roundw
        case rel => exact ⟨i + 1, by omega, by go_num, by rw [HS.out, HO.out]; go_num, X2⟩
        case measure => simp [intOf]; omega
      · rw [decide_eq_false ho] at CO
        have HO := hid (show Pat.one wd x = 0 by unfold Pat.one; rw [if_neg ho])
        clear c1 hx hxl ho hx1 hti
        go_wp2_with fail
        refine Calls.mono (CO.out _) ?_
        rintro e _ ⟨rfl, rfl⟩
        go_wp2
        go_roundw
        case rel => exact ⟨i + 1, by omega, by go_num, by rw [HS.out, HO.out]; go_num, X⟩
        case measure => simp [intOf]; omega
    · obtain rfl : i = n := by omega
      have htl : M.take i = M := List.take_of_length_le (by rw [HN.out]; exact Nat.le_refl _)
      rw [htl]
      clear hx1 hti htl
      go_wp2
      go_returns
      exact ⟨rfl, X⟩
end Go.Proofs.Ytdblegdbfdhepaa
