/- Texts of this claim, put together: walks and plain laws. -/
import Derived.Test.YthgnipangcmanaaGreatZG1
import Derived.Test.YthgnipangcmanaaGreatZB1
import Derived.Test.YthgnipangcmanaaGreatZV1
import Derived.Test.YthgnipangcmanaaGreatZX1
import Derived.Laws.Externs
import Derived.Lib.SliceRun
section
namespace Hy.Pat
open Go
def bas (l : List Nat) : Nat := match l with
  | [] => 0
  | x :: r => r.foldl min x
theorem bas_snoc (l : List Nat) (y : Nat) (h : l ≠ []) : bas (l ++ [y]) = min (bas l) y := by
  cases l with
  | nil => exact absurd rfl h
  | cons x r => simp [bas]
theorem foldl_min_le (r : List Nat) : ∀ x : Nat, r.foldl min x ≤ x ∧ ∀ y ∈ r, r.foldl min x ≤ y := by
  induction r with
  | nil => intro x; exact ⟨Nat.le_refl _, fun y hy => by cases hy⟩
  | cons z r ih =>
    intro x
    obtain ⟨h1, h2⟩ := ih (min x z)
    refine ⟨Nat.le_trans h1 (Nat.min_le_left _ _), fun y hy => ?_⟩
    rcases List.mem_cons.1 hy with rfl | hy
    · exact Nat.le_trans h1 (Nat.min_le_right _ _)
    · exact h2 y hy
theorem bas_le (l : List Nat) : ∀ x ∈ l, bas l ≤ x := by
  cases l with
  | nil => intro x hx; cases hx
  | cons a r =>
    intro x hx
    rcases List.mem_cons.1 hx with rfl | hx
    · exact (foldl_min_le r _).1
    · exact (foldl_min_le r a).2 x hx
theorem bas_lt (l : List Nat) (hl : ∀ x ∈ l, x < 18446744073709551616) : bas l < 18446744073709551616 := by
  cases l with
  | nil => decide
  | cons a r => exact Nat.lt_of_le_of_lt (foldl_min_le r a).1 (hl a (by simp))
def mor (l : List Nat) : List Nat := l.map (· - bas l)
theorem mor_len (l : List Nat) : (mor l).length = l.length := by simp [mor]
theorem mor_lt (l : List Nat) (hl : ∀ x ∈ l, x < 18446744073709551616) : ∀ x ∈ mor l, x < 18446744073709551616 := fun x hx => by
  obtain ⟨y, hy, rfl⟩ := List.mem_map.1 hx
  have := hl y hy
  show y - bas l < _
  omega
def one (w x : Nat) : Nat := if w < Lib.bitLen x then 1 + (Vary.wr x).length else 0
def xt (w : Nat) (l : List Nat) : Nat := (l.map (one w)).sum
theorem xt_snoc (w : Nat) (l : List Nat) (x : Nat) : xt w (l ++ [x]) = xt w l + one w x := by simp [xt]
theorem one_le (w x : Nat) : one w x ≤ 10 := by
  unfold one; split
  · rw [Vary.wr_len]; have := Vary.beh_le8 x; omega
  · omega
theorem xt_le (w : Nat) (l : List Nat) : xt w l ≤ 10 * l.length := by
  induction l with
  | nil => exact Nat.le_refl _
  | cons x l ih =>
    have := one_le w x
    unfold xt at *
    rw [List.map_cons, List.sum_cons, List.length_cons]; omega
def cst (l : List Nat) (w : Nat) : Nat := Bits.size l.length w + xt w l
end Hy.Pat
end
section
namespace Hy
open Go
theorem take_succ_snoc' {l : List Nat} {i x : Nat} (hx : l[i]? = some x) : l.take (i + 1) = l.take i ++ [x] := by rw [List.take_add_one, hx]; rfl
theorem take_ne {l : List Nat} {i : Nat} (h : 1 ≤ i) (hl : i ≤ l.length) : l.take i ≠ [] := fun e => by
  have h1 := congrArg List.length e
  rw [List.length_take, List.length_nil] at h1; omega
theorem Rd.num00 {w : World} {A : Option Addr} {l : List Nat} (h : Rd w A (u64s l)) (hp : 0 < l.length) :
    ∃ b o, A = some ⟨b, o, none⟩ ∧ b < w.heap.size ∧ ∀ (k x : Nat), l[k]? = some x → w.cell? ⟨b, o + k, none⟩ = some (.int .u64 (x : Int)) := by
  obtain ⟨b, o, e, hb, hc⟩ := h (by rw [u64s_len]; exact hp)
  exact ⟨b, o, e, hb, fun k x hk => hc k _ (by simp [u64s, hk])⟩
end Hy
namespace Go.Proofs.YthgnipangcmanaaGreat
open Go.RowKit Hy
set_option maxHeartbeats 400000 in
theorem min_any (l : List Nat) (A : Option Addr) (n cap : Nat) (w : World) (hn : l.length = n) (hr : Rd w A (u64s l)) (hl : ∀ x ∈ l, x < 18446744073709551616) (h1 : 1 ≤ n) (hnl : n ≤ 64) :
    Calls Tryz.prog 172 #[.slice A n cap] w fun e w' => e = .returned (.int .u64 (Pat.bas l : Nat)) ∧ w = w' := by
  obtain ⟨b1, o1, rfl, l1, c1⟩ := hr.num00 (by omega)
  obtain ⟨x0, hx0⟩ : ∃ x, l[0]? = some x := ⟨_, List.getElem?_eq_getElem (by omega)⟩
  have d00 := c1 0 x0 hx0
  rw [Nat.add_zero] at d00
  have HB0 := hid (show Pat.bas (l.take 1) = x0 by rw [take_succ_snoc' hx0]; rfl)
  have hx0I : (x0 : Int) ≤ 18446744073709551615 := by have := hl x0 (List.mem_of_getElem? hx0); omega
  have hnI : (n : Int) ≤ 64 := by omega
  have hn1 : (1 : Int) ≤ (n : Int) := by omega
  have HN := hid hn
  have HL := hid hl
  have H1 := hid h1
  have C1 := hid c1
  clear hr hn hl c1 hx0 h1 hnl
  go_enter Tryz.func172, Tryz.ntmps172
  go_wp2
  go_loop [3, 4] (fun m c => ∃ i : Nat, 1 ≤ i ∧ i ≤ n ∧ c = .int .i64 i ∧ m = .int .u64 (Pat.bas (l.take i) : Nat)) (fun _ c => n - (intOf c).toNat)
  case atStart => exact ⟨1, Nat.le_refl _, H1.out, rfl, by rw [HB0.out]⟩
  case round =>
    obtain ⟨i, hi1, hi, rfl, rfl⟩ := hrel
    by_cases hlt : i < n
    · have hltI : (i : Int) < (n : Int) := by omega
      obtain ⟨x, hx⟩ : ∃ x, l[i]? = some x := ⟨_, List.getElem?_eq_getElem (by rw [HN.out]; exact hlt)⟩
      have hxl := HL.out x (List.mem_of_getElem? hx)
      have d0 := C1.out i x hx
      have HS := hid (show Pat.bas (l.take (i + 1)) = min (Pat.bas (l.take i)) x by rw [take_succ_snoc' hx, Pat.bas_snoc _ _ (take_ne hi1 (by rw [HN.out]; exact hi))])
      have hp := Pat.bas_lt (l.take i) (fun z hz => HL.out z (List.mem_of_mem_take hz))
      generalize Pat.bas (l.take i) = p at *
      have hpI : (p : Int) ≤ 18446744073709551615 := by omega
      have hxI : (x : Int) ≤ 18446744073709551615 := by omega
      obtain ⟨z, hz⟩ : ∃ z, z = min p x := ⟨_, rfl⟩
      rw [← hz] at HS
      have hzI : min (p : Int) (x : Int) = (z : Int) := by omega
      clear hx hxl hp hz
      go_wp2
      go_round
      case rel => exact ⟨i + 1, by omega, by omega, by go_num, by rw [HS.out]⟩
      case measure => simp [intOf]; omega
    · obtain rfl : i = n := by omega
      have hti : l.take i = l := List.take_of_length_le (by rw [HN.out]; exact Nat.le_refl _)
      rw [hti]
      go_wp2
      go_returns
      exact ⟨rfl, rfl⟩
theorem out_any (x wd : Nat) (w : World) (hx : x < 18446744073709551616) : Calls Tryz.prog 145 #[.int .u64 x, .int .i64 wd] w fun e w' => e = .returned (.bool (decide (wd < Lib.bitLen x))) ∧ w = w' := by
  have CL := fun wx : World => Tryz.bits_Len64 (x : Int) wx (by omega) (by omega)
  rw [Int.toNat_natCast] at CL
  go_enter Tryz.func145, Tryz.ntmps145
  go_wp2_with fail
  refine Calls.mono (CL _) ?_
  rintro e _ ⟨rfl, rfl⟩
  go_wp2
  go_returns
  exact ⟨by simp, rfl⟩
set_option maxHeartbeats 400000 in
theorem baseOf_any (l : List Nat) (A : Option Addr) (n cap : Nat) (w : World) (hn : l.length = n) (hr : Rd w A (u64s l)) (hl : ∀ x ∈ l, x < 18446744073709551616) (hnl : n ≤ 64) :
    Calls Tryz.prog 136 #[.slice A n cap] w fun e w' => e = .returned (.int .u64 (Pat.bas l : Nat)) ∧ w = w' := by
  have hnI : (n : Int) ≤ 64 := by omega
  rcases Nat.eq_zero_or_pos n with h0 | h0
  · subst h0
    obtain rfl := List.length_eq_zero_iff.1 hn
    clear hr hn hl hnl
    go_enter Tryz.func136, Tryz.ntmps136
    go_wp2
    go_returns
    exact ⟨rfl, rfl⟩
  obtain ⟨b1, o1, rfl, l1, c1⟩ := hr.num00 (by omega)
  obtain ⟨x0, hx0⟩ : ∃ x, l[0]? = some x := ⟨_, List.getElem?_eq_getElem (by omega)⟩
  have d00 := c1 0 x0 hx0
  rw [Nat.add_zero] at d00
  have HB0 := hid (show Pat.bas (l.take 1) = x0 by rw [take_succ_snoc' hx0]; rfl)
  have hx0I : (x0 : Int) ≤ 18446744073709551615 := by have := hl x0 (List.mem_of_getElem? hx0); omega
  have hn1 : (1 : Int) ≤ (n : Int) := by omega
  have HN := hid hn
  have HL := hid hl
  have H1 := hid h0
  have C1 := hid c1
  have HX0 := hid hx0
  clear hr hn hl c1 hx0 h0 hnl
  go_enter Tryz.func136, Tryz.ntmps136
  go_wp2
  go_loop [3, 4] (fun m c => ∃ i p : Nat, i ≤ n ∧ c = .int .i64 i ∧ m = .int .u64 p ∧ Hid (p = Pat.bas (l.take (max 1 i))) ∧ p < 18446744073709551616) (fun _ c => n - (intOf c).toNat)
  case atStart => exact ⟨0, x0, Nat.zero_le _, rfl, rfl, hid (by rw [Nat.max_eq_left (by omega), HB0.out]), by omega⟩
  case round =>
    obtain ⟨i, p, hi, rfl, rfl, HP, hp⟩ := hrel
    by_cases hlt : i < n
    · have hltI : (i : Int) < (n : Int) := by omega
      obtain ⟨x, hx⟩ : ∃ x, l[i]? = some x := ⟨_, List.getElem?_eq_getElem (by rw [HN.out]; exact hlt)⟩
      have hxl := HL.out x (List.mem_of_getElem? hx)
      have d0 := C1.out i x hx
      have HS := hid (show Pat.bas (l.take (max 1 (i + 1))) = min p x by
        rw [Nat.max_eq_right (by omega)]
        rcases Nat.eq_zero_or_pos i with h | h
        · subst h
          have hp0 := HP.out
          rw [Nat.max_eq_left (by omega), HB0.out] at hp0
          have := HX0.out
          rw [hx] at this
          injection this with this
          show Pat.bas (l.take 1) = _
          rw [HB0.out, hp0, this, Nat.min_self]
        · have hp0 := HP.out
          rw [Nat.max_eq_right h] at hp0
          rw [take_succ_snoc' hx, Pat.bas_snoc _ _ (take_ne h (by rw [HN.out]; exact hi)), ← hp0])
      have hpI : (p : Int) ≤ 18446744073709551615 := by omega
      have hxI : (x : Int) ≤ 18446744073709551615 := by omega
      by_cases hxp : x < p
      · have hxpI : (x : Int) < (p : Int) := by omega
        have HM := hid (show min p x = x by omega)
        have HXL := hid hxl
        clear hx hxl hp hxp
        go_wp2
        go_round
        case rel => exact ⟨i + 1, x, by omega, by go_num, rfl, hid (by rw [HS.out, HM.out]), HXL.out⟩
        case measure => simp [intOf]; omega
      · have hxpI : ¬ (x : Int) < (p : Int) := by omega
        have HM := hid (show min p x = p by omega)
        have HPL := hid hp
        clear hx hxl hp hxp
        go_wp2
        go_round
        case rel => exact ⟨i + 1, p, by omega, by go_num, rfl, hid (by rw [HS.out, HM.out]), HPL.out⟩
        case measure => simp [intOf]; omega
    · obtain rfl : i = n := by omega
      have HE := hid (show p = Pat.bas l by rw [HP.out, Nat.max_eq_right H1.out, List.take_of_length_le (by rw [HN.out]; exact Nat.le_refl _)])
      clear hp
      go_wp2
      go_returns
      exact ⟨by rw [← HE.out]; rfl, rfl⟩
end Go.Proofs.YthgnipangcmanaaGreat
end
section
namespace Go.Proofs.YthgnipangcmanaaGreat
open Go.RowKit Hy
set_option maxHeartbeats 1000000 in
theorem cost_any (M : List Nat) (B : Option Addr) (n c wd base : Nat) (w : World) (hn : M.length = n) (hr : Rd w B (u64s M)) (hl : ∀ x ∈ M, x < 18446744073709551616) (hnl : n ≤ 64) (hwd : wd ≤ 64) :
    Calls Tryz.prog 173 #[.agg #[.int .u64 base, .slice B n c], .int .i64 wd] w fun e w' => e = .returned (.int .i64 ((Bits.size n wd + Pat.xt wd M : Nat) : Int)) ∧ Ext w w' := by
  obtain ⟨p, hp⟩ : ∃ p, p = n * wd := ⟨_, rfl⟩
  have hmul : (n : Int) * (wd : Int) = (p : Int) := by rw [hp]; simp
  have hpb : p ≤ 64 * 64 := by rw [hp]; exact Nat.mul_le_mul hnl hwd
  have hpI : (p : Int) ≤ 4096 := by omega
  obtain ⟨z, hz⟩ : ∃ z, z = Bits.size n wd := ⟨_, rfl⟩
  have hz2 : z = (p + 7) / 8 := by rw [hz, hp]; rfl
  have hq1 : ((p : Int) + 7).tdiv 8 = (z : Int) := by rw [Int.tdiv_eq_ediv_of_nonneg (by omega)]; omega
  have hq2 : ((p : Int) + 7) / 8 = (z : Int) := by omega
  have hzI : (z : Int) ≤ 512 := by omega
  have hnI : (n : Int) ≤ 64 := by omega
  have hwI : (wd : Int) ≤ 64 := by omega
  rw [← hz]
  have HR := hid hr
  have HN := hid hn
  have HL := hid hl
  have HNL := hid hnl
  have B0 := (Blk.new w 148 #[.int .u64 (base : Int), .slice B n c]).cell
  have p1 : (w.alloc (.cells #[.int .u64 (base : Int), .slice B n c] 148)).cell? ⟨w.heap.size, 1, none⟩ = some (.slice B n c) := B0 1
  clear hr hn hl hnl hp hpb hz hz2 hwd B0
  go_enter Tryz.func173, Tryz.ntmps173
  go_wp2
  go_loopw [5, 7, 18] (fun t _ q wr => ∃ i : Nat, i ≤ n ∧ q = .int .i64 i ∧ t = .int .i64 ((z + Pat.xt wd (M.take i) : Nat) : Int) ∧ Ext w wr) (fun _ _ q _ => n - (intOf q).toNat)
  case atStart => exact ⟨0, Nat.zero_le _, rfl, rfl, (ext_refl w).new _⟩
  case round =>
    obtain ⟨i, hi, rfl, rfl, X⟩ := hrel
    have hx1 := Pat.xt_le wd (M.take i)
    have hti : (M.take i).length = i := by rw [List.length_take, HN.out]; omega
    rw [hti] at hx1
    by_cases hlt : i < n
    · have hltI : (i : Int) < (n : Int) := by omega
      obtain ⟨x, hx⟩ : ∃ x, M[i]? = some x := ⟨_, List.getElem?_eq_getElem (by rw [HN.out]; exact hlt)⟩
      have hxl := HL.out x (List.mem_of_getElem? hx)
      obtain ⟨b1, o1, rfl, l1, c1⟩ := HR.out.num00 (by rw [HN.out]; omega)
      have d0 := (X.cell (p := ⟨b1, o1 + i, none⟩) l1).trans (c1 i x hx)
      have HS := hid (show Pat.xt wd (M.take (i + 1)) = Pat.xt wd (M.take i) + Pat.one wd x by rw [take_succ_snoc' hx, Pat.xt_snoc])
      have CO := hid (fun wx => out_any x wd wx hxl)
      have CW := hid (fun wx => write_any x wx hxl)
      have hxI : (x : Int) ≤ 18446744073709551615 := by omega
      generalize Pat.xt wd (M.take i) = acc at *
      have haI : (acc : Int) ≤ 640 := by have := HNL.out; omega
      have ha0 : (0 : Int) ≤ (acc : Int) := by omega
      by_cases ho : wd < Lib.bitLen x
      · rw [decide_eq_true ho] at CO
        obtain ⟨S, hS⟩ : ∃ S : ByteArray, S = ⟨(Vary.wr x).toArray⟩ := ⟨_, rfl⟩
        have hSs : S.size = (Vary.wr x).length := by rw [hS, str_size]
        have hS9 : (S.size : Int) ≤ 9 := by rw [hSs, Vary.wr_len]; have := Vary.beh_le8 x; omega
        have HO := hid (show Pat.one wd x = 1 + S.size by unfold Pat.one; rw [if_pos ho, hSs])
        rw [← hS] at CW
        clear c1 hx hxl ho hS hSs hx1 hti
        go_wp2_with fail
        refine Calls.mono (CO.out _) ?_
        rintro e _ ⟨rfl, rfl⟩
        go_wp2_with fail
        refine Calls.mono (CW.out _) ?_
        rintro e w2 ⟨rfl, hx⟩
        have X2 := X.then hx
        clear hx
        go_wp2
        go_roundw
        case rel => exact ⟨i + 1, by omega, by go_num, by rw [HS.out, HO.out]; go_num, X2⟩
        case measure => simp [intOf]; omega
      · rw [decide_eq_false ho] at CO
        have HO := hid (show Pat.one wd x = 0 by unfold Pat.one; rw [if_neg ho])
        clear c1 hx hxl ho hx1 hti
        go_wp2_with fail
        refine Calls.mono (CO.out _) ?_
        rintro e _ ⟨rfl, rfl⟩
        go_wp2
        go_roundw
        case rel => exact ⟨i + 1, by omega, by go_num, by rw [HS.out, HO.out]; go_num, X⟩
        case measure => simp [intOf]; omega
    · obtain rfl : i = n := by omega
      have htl : M.take i = M := List.take_of_length_le (by rw [HN.out]; exact Nat.le_refl _)
      rw [htl]
      clear hx1 hti htl
      go_wp2
      go_returns
      exact ⟨rfl, X⟩
end Go.Proofs.YthgnipangcmanaaGreat
end
section
namespace Go.Proofs.YthgnipangcmanaaGreat
open Go.RowKit Hy
set_option maxHeartbeats 1600000 in
theorem framed_any (l : List Nat) (A : Option Addr) (n cap : Nat) (w : World) (hn : l.length = n) (hr : Rd w A (u64s l)) (hl : ∀ x ∈ l, x < 18446744073709551616) (hnl : n ≤ 64) :
    Calls Tryz.prog 142 #[.slice A n cap] w fun e w' => ∃ B c, e = .returned (.agg #[.int .u64 (Pat.bas l : Nat), .slice B n c]) ∧ Rd w' B (u64s (Pat.mor l)) ∧ Ext w w' ∧ n ≤ c := by
  have hnI : (n : Int) ≤ 64 := by omega
  have HMIN := hid (fun (h1 : 1 ≤ n) (wx : World) (hx : Ext w wx) => min_any l A n cap wx hn (hr.keep hx) hl h1 hnl)
  have hb := Pat.bas_lt l hl
  have HLE := hid (Pat.bas_le l)
  have HZ := hid (show n = 0 → Pat.bas l = 0 from fun h => by rw [h] at hn; rw [List.length_eq_zero_iff.1 hn]; rfl)
  have HMOR := hid (show Pat.mor l = l.map (· - Pat.bas l) from rfl)
  obtain ⟨b, hbb⟩ : ∃ b, b = Pat.bas l := ⟨_, rfl⟩
  rw [← hbb] at HMIN hb HLE HZ HMOR ⊢
  have hbI : (b : Int) ≤ 18446744073709551615 := by omega
  have HR := hid hr
  have HN := hid hn
  have HL := hid hl
  have HNL := hid hnl
  clear hr hn hl hnl hb hbb
  by_cases h1 : 1 ≤ n
  · have h1I : (0 : Int) < (n : Int) := by omega
    have HM := hid (HMIN.out h1)
    clear HMIN HZ h1
    go_enter Tryz.func142, Tryz.ntmps142
    go_wp2_with fail
    refine Calls.mono (HM.out _ (((ext_refl w).new _).new _)) ?_
    rintro e _ ⟨rfl, rfl⟩
    go_wp2
    go_loopw [5, 14] (fun _ q wr => ∃ (i : Nat) (v : Value), i ≤ n ∧ q = .int .i64 i ∧ Blk wr (w.heap.size + 1) 148 #[.int .u64 (b : Int), v] ∧ Blk wr w.heap.size 148 #[.int .u64 0, .slice none 0 0] ∧ Hid (wr.ownsRow (w.heap.size + 1 + 1) 34 1 v i (u64s ((l.take i).map (· - b)))) ∧ Hid (Ext w wr) ∧ w.heap.size + 1 + 1 ≤ wr.heap.size) (fun _ q _ => n - (intOf q).toNat)
    case atStart => exact ⟨0, .slice none 0 0, Nat.zero_le _, rfl, Blk.newAt (by simp), (Blk.new w _ _).alloc _, hid (World.ownsRow_nil _ _ _ _), hid (((ext_refl w).new _).new _), by simp⟩
    case round =>
      obtain ⟨i, v, hi, rfl, B1, B0, HO, HX, hsz⟩ := hrel
      have HB1 := hid B1
      have HB0 := hid B0
      have HSZ := hid hsz
      have hc0 := B1.cell 0
      have hc1 := B1.cell 1
      have hf1 := B1.frozen 1
      obtain ⟨A3, c3, rfl, hrd3, _, hcc3, _⟩ := Rd.owned HO.out
      have HRD3 := hid hrd3
      have HCC3 := hid hcc3
      clear B1 B0 hsz hrd3 hcc3
      by_cases hlt : i < n
      · have hltI : (i : Int) < (n : Int) := by omega
        obtain ⟨x, hx⟩ : ∃ x, l[i]? = some x := ⟨_, List.getElem?_eq_getElem (by rw [HN.out]; exact hlt)⟩
        have hxl := HL.out x (List.mem_of_getElem? hx)
        have hbx := HLE.out x (List.mem_of_getElem? hx)
        obtain ⟨b1, o1, rfl, l1, c1⟩ := HR.out.num00 (by rw [HN.out]; omega)
        have d0 := (HX.out.cell (p := ⟨b1, o1 + i, none⟩) l1).trans (c1 i x hx)
        have HS := hid (show (l.take (i + 1)).map (· - b) = (l.take i).map (· - b) ++ [x - b] by rw [take_succ_snoc' hx]; simp)
        obtain ⟨y, hy⟩ : ∃ y, y = x - b := ⟨_, rfl⟩
        rw [← hy] at HS
        have hsub : (x : Int) - (b : Int) = (y : Int) := by omega
        have hxI : (x : Int) ≤ 18446744073709551615 := by omega
        have hyI : (y : Int) ≤ 18446744073709551615 := by omega
        have HI := hid (show i ≤ 64 by have := HNL.out; omega)
        generalize (l.take i).map (· - b) = L at *
        clear c1 hx hxl hbx hy
        go_wp2_with (at_builtin; refine wpList_app rfl (.tmp 19) (.tmp 24) rowU64 rfl _ i _ rfl (own_ext HO.out ((ext_refl _).new _)) _ 1 (u64s [y]) rfl (Src.rd Tryz.underlying58 _ 1 1 _ rfl (rd_lit rfl rfl) (u64s_one _) (fun h => by cases h)) (by have := HI.out; unfold maxLen; omega) (by have := HI.out; omega) (by have := HSZ.out; simp; omega) ?_; intro v' w3 hown3 hgrow hat hbel; obtain ⟨A4, k4, rfl, _⟩ := Rd.owned hown3; have O3 := hid hown3; have Bn1 := (HB1.out.alloc _).below hbel (Nat.lt_succ_self _); have Bn0 := (HB0.out.alloc _).below hbel (by omega); have X3 := hid (Below.trans (HX.out.new _) (hbel.mono (by omega))); have hsz3 := hbel.size; have hc1' := Bn1.cell 1; have hf1' := Bn1.frozen 1; have HBn1 := hid Bn1; have HBn0 := hid Bn0; have HS3 := hid hsz3; clear hown3 hgrow hat hbel Bn1 Bn0 hsz3 hc0 hc1 hf1)
        go_roundw
        case rel => exact ⟨i + 1, .slice A4 (i + 1) k4, by omega, by go_num, (HBn1.out.set 1 _).cast rfl, HBn0.out.far (by simp) _, hid (by rw [HS.out, u64s_app]; exact own_but O3.out ((but_refl _ _).put ⟨w.heap.size + 1, 1, none⟩ (.inl rfl) _) (Nat.lt_succ_self _)), hid (Below.setCell X3.out (Nat.le_succ _) _), by have := HSZ.out; have := HS3.out; simp at this ⊢; omega⟩
        case measure => simp [intOf]; omega
      · obtain rfl : i = n := by omega
        have hti : l.take i = l := List.take_of_length_le (by rw [HN.out]; exact Nat.le_refl _)
        rw [hti, ← HMOR.out] at HO
        clear hti hlt HRD3
        go_wp2_with (with_reducible (show wpList _ _ _ (⟨none, .store 148 (.tmp 2) (.tmp 28), _, _, _, _⟩ :: _) _ _); go_loud (refine wpList_store_blk rfl 148 (.tmp 2) (.tmp 28) rfl w.heap.size #[.int .u64 (b : Int), .slice A3 i c3] rfl rfl 148 _ HB0.out (by kernel_rfl) rfl (by simp [Value.oneCell']) w.heap.size (Nat.le_refl _) ?_; intro w6 hB6 hF6 hL6; have HB6 := hid hB6; have HF6 := hid hF6; have HL6 := hid hL6; clear hB6 hF6 hL6))
        refine bodyPost_ret (results_blk rfl _ _ w.heap.size 148 _ _ rfl HB6.out Tryz.underlying148 rfl (by kernel_rfl)) rfl ?_
        have hown6 := own_far HO.out (fun e => by have := (HO.out.lt _ e).1; omega) HF6.out
        obtain ⟨_, _, e, hrd6, _⟩ := Rd.owned hown6
        cases e
        exact ⟨_, _, rfl, hrd6, Below.trans HX.out HL6.out, HCC3.out⟩
  · have HB00 := hid (HZ.out (by omega))
    have h1I : ¬ (0 : Int) < (n : Int) := by omega
    have HN0 := hid (show n = 0 by omega)
    clear HMIN HZ h1
    go_enter Tryz.func142, Tryz.ntmps142
    go_wp2
    go_loopw [5, 14] (fun _ q wr => ∃ (i : Nat) (v : Value), i ≤ n ∧ q = .int .i64 i ∧ Blk wr (w.heap.size + 1) 148 #[.int .u64 (b : Int), v] ∧ Blk wr w.heap.size 148 #[.int .u64 0, .slice none 0 0] ∧ Hid (wr.ownsRow (w.heap.size + 1 + 1) 34 1 v i (u64s ((l.take i).map (· - b)))) ∧ Hid (Ext w wr) ∧ w.heap.size + 1 + 1 ≤ wr.heap.size) (fun _ q _ => n - (intOf q).toNat)
    case atStart => exact ⟨0, .slice none 0 0, Nat.zero_le _, rfl, by rw [HB00.out]; exact Blk.newAt (by simp), (Blk.new w _ _).alloc _, hid (World.ownsRow_nil _ _ _ _), hid (((ext_refl w).new _).new _), by simp⟩
    case round =>
      obtain ⟨i, v, hi, rfl, B1, B0, HO, HX, hsz⟩ := hrel
      have HB1 := hid B1
      have HB0 := hid B0
      have HSZ := hid hsz
      have hc0 := B1.cell 0
      have hc1 := B1.cell 1
      have hf1 := B1.frozen 1
      obtain ⟨A3, c3, rfl, hrd3, _, hcc3, _⟩ := Rd.owned HO.out
      have HRD3 := hid hrd3
      have HCC3 := hid hcc3
      clear B1 B0 hsz hrd3 hcc3
      by_cases hlt : i < n
      · exfalso; have := HN0.out; omega
      · obtain rfl : i = n := by omega
        have hti : l.take i = l := List.take_of_length_le (by rw [HN.out]; exact Nat.le_refl _)
        rw [hti, ← HMOR.out] at HO
        clear hti hlt HRD3
        go_wp2_with (with_reducible (show wpList _ _ _ (⟨none, .store 148 (.tmp 2) (.tmp 28), _, _, _, _⟩ :: _) _ _); go_loud (refine wpList_store_blk rfl 148 (.tmp 2) (.tmp 28) rfl w.heap.size #[.int .u64 (b : Int), .slice A3 i c3] rfl rfl 148 _ HB0.out (by kernel_rfl) rfl (by simp [Value.oneCell']) w.heap.size (Nat.le_refl _) ?_; intro w6 hB6 hF6 hL6; have HB6 := hid hB6; have HF6 := hid hF6; have HL6 := hid hL6; clear hB6 hF6 hL6))
        refine bodyPost_ret (results_blk rfl _ _ w.heap.size 148 _ _ rfl HB6.out Tryz.underlying148 rfl (by kernel_rfl)) rfl ?_
        have hown6 := own_far HO.out (fun e => by have := (HO.out.lt _ e).1; omega) HF6.out
        obtain ⟨_, _, e, hrd6, _⟩ := Rd.owned hown6
        cases e
        exact ⟨_, _, rfl, hrd6, Below.trans HX.out HL6.out, HCC3.out⟩
end Go.Proofs.YthgnipangcmanaaGreat
end
section
namespace Hy.Pat
open Go
def bst (M : List Nat) : Nat → Nat
  | 0 => 0
  | w + 1 => if cst M (w + 1) < cst M (bst M w) then w + 1 else bst M w
theorem bst_le (M : List Nat) (k : Nat) : bst M k ≤ k := by
  induction k with
  | zero => exact Nat.le_refl _
  | succ k ih => unfold bst; split <;> omega
theorem bst_least (M : List Nat) (k : Nat) : ∀ w, w ≤ k → cst M (bst M k) ≤ cst M w := by
  induction k with
  | zero => intro w hw; rw [show w = 0 by omega]; exact Nat.le_refl _
  | succ k ih =>
    intro w hw
    unfold bst
    split
    · rename_i h
      rcases Nat.lt_or_ge k w with h1 | h1
      · rw [show w = k + 1 by omega]; exact Nat.le_refl _
      · exact Nat.le_trans (Nat.le_of_lt h) (ih w h1)
    · rename_i h
      rcases Nat.lt_or_ge k w with h1 | h1
      · rw [show w = k + 1 by omega]; omega
      · exact ih w h1
end Hy.Pat
end
section
namespace Hy.Pat
open Go
theorem bst_first (M : List Nat) (k : Nat) : ∀ w, w < bst M k → cst M (bst M k) < cst M w := by
  induction k with
  | zero => intro w hw; exact absurd hw (by simp [bst])
  | succ k ih =>
    intro w hw
    unfold bst at hw ⊢
    split at hw
    · rename_i h
      rw [if_pos h]
      exact Nat.lt_of_lt_of_le h (bst_least M k w (by omega))
    · rename_i h
      rw [if_neg h]
      exact ih w hw
theorem bst_of {M : List Nat} {k w : Nat} (hk : w ≤ k) (h1 : ∀ v, v ≤ k → cst M w ≤ cst M v) (h2 : ∀ v, v < w → cst M w < cst M v) : bst M k = w := by
  have h3 := bst_least M k w hk
  have h4 := h1 (bst M k) (bst_le M k)
  rcases Nat.lt_trichotomy (bst M k) w with h | h | h
  · have := h2 _ h; omega
  · exact h
  · have := bst_first M k w h; omega
def inn (w : Nat) (M : List Nat) : List Nat := M.map fun x => if w < Lib.bitLen x then 0 else x
theorem inn_len (w : Nat) (M : List Nat) : (inn w M).length = M.length := by simp [inn]
theorem inn_lt (w : Nat) (M : List Nat) (hw : w ≤ 64) (hl : ∀ x ∈ M, x < 2 ^ 64) : ∀ x ∈ inn w M, x < 2 ^ w := fun x hx => by
  obtain ⟨y, hy, rfl⟩ := List.mem_map.1 hx
  split
  · exact Nat.two_pow_pos w
  · rename_i h
    exact (Bits.bitLen_le_iff y w (hl y hy) hw).1 (by omega)
def tl (w : Nat) : Nat → List Nat → List UInt8
  | _, [] => []
  | i, x :: M => if w < Lib.bitLen x then UInt8.ofNat i :: Vary.wr x ++ tl w (i + 1) M else tl w (i + 1) M
def cnt (w : Nat) (M : List Nat) : Nat := (M.map fun x => if w < Lib.bitLen x then 1 else 0).sum
theorem tl_snoc (w : Nat) : ∀ (M : List Nat) (i x : Nat), tl w i (M ++ [x]) = tl w i M ++ (if w < Lib.bitLen x then UInt8.ofNat (i + M.length) :: Vary.wr x else [])
  | [], i, x => by simp only [List.nil_append, tl, List.length_nil, Nat.add_zero]; split <;> simp
  | y :: M, i, x => by
    rw [List.cons_append, tl, tl, tl_snoc w M (i + 1) x, List.length_cons, show i + 1 + M.length = i + (M.length + 1) by omega]
    split <;> simp
theorem cnt_snoc (w : Nat) (M : List Nat) (x : Nat) : cnt w (M ++ [x]) = cnt w M + (if w < Lib.bitLen x then 1 else 0) := by simp [cnt]
theorem cnt_le (w : Nat) (M : List Nat) : cnt w M ≤ M.length := by
  induction M with
  | nil => exact Nat.le_refl _
  | cons x M ih =>
    unfold cnt at *
    rw [List.map_cons, List.sum_cons, List.length_cons]
    split <;> omega
theorem tl_len (w : Nat) : ∀ (M : List Nat) (i : Nat), (tl w i M).length = xt w M
  | [], _ => rfl
  | x :: M, i => by
    have ih := tl_len w M (i + 1)
    show (if w < Lib.bitLen x then UInt8.ofNat i :: Vary.wr x ++ tl w (i + 1) M else tl w (i + 1) M).length = one w x + xt w M
    unfold one
    split
    · rw [List.length_append, List.length_cons, ih]; omega
    · rw [ih]; omega
@[irreducible] def bys (l : List Nat) : List UInt8 :=
  Vary.wr (bas l) ++ [UInt8.ofNat (bst (mor l) 64), UInt8.ofNat (cnt (bst (mor l) 64) (mor l))] ++ Bits.packed (inn (bst (mor l) 64) (mor l)) (bst (mor l) 64) ++ tl (bst (mor l) 64) 0 (mor l)
theorem bys_eq (l : List Nat) : bys l = Vary.wr (bas l) ++ [UInt8.ofNat (bst (mor l) 64), UInt8.ofNat (cnt (bst (mor l) 64) (mor l))] ++ Bits.packed (inn (bst (mor l) 64) (mor l)) (bst (mor l) 64) ++ tl (bst (mor l) 64) 0 (mor l) := by unfold bys; rfl
theorem bys_len (l : List Nat) : (bys l).length = (Vary.wr (bas l)).length + 2 + cst (mor l) (bst (mor l) 64) := by
  rw [bys_eq]
  simp only [List.length_append, List.length_cons, List.length_nil, Bits.packed_len, inn_len, tl_len]
  unfold cst; omega
end Hy.Pat
end
section
namespace Hy.Pat
open Go
@[irreducible] def onE (w : Nat) (M : List Nat) (last : Int) (s : List UInt8) : Nat × Nat × List Nat × List UInt8 := match s with
  | [] => (5, 0, M, [])
  | c :: t =>
    if M.length ≤ c.toNat then (3, 0, M, t)
    else if (c.toNat : Int) ≤ last then (4, 0, M, t)
    else if M.getD c.toNat 0 ≠ 0 then (1, 0, M, t)
    else if (Vary.rd t).2.2 ≠ 0 then ((Vary.rd t).2.2, 0, M, t)
    else if Lib.bitLen (Vary.rd t).1 ≤ w then (1, 0, M, t)
    else (0, c.toNat, M.set c.toNat (Vary.rd t).1, t.drop (Vary.rd t).2.1)
section
variable {w : Nat} {M : List Nat} {last : Int} {c : UInt8} {t : List UInt8} {n k e : Nat}
theorem onE_nil : onE w M last [] = (5, 0, M, []) := by unfold onE; rfl
theorem onE_range (h : M.length ≤ c.toNat) : onE w M last (c :: t) = (3, 0, M, t) := by unfold onE; simp only; rw [if_pos h]
theorem onE_state (h : ¬ M.length ≤ c.toNat) (h2 : (c.toNat : Int) ≤ last) : onE w M last (c :: t) = (4, 0, M, t) := by unfold onE; simp only; rw [if_neg h, if_pos h2]
theorem onE_form (h : ¬ M.length ≤ c.toNat) (h2 : ¬ (c.toNat : Int) ≤ last) (h3 : M.getD c.toNat 0 ≠ 0) : onE w M last (c :: t) = (1, 0, M, t) := by unfold onE; simp only; rw [if_neg h, if_neg h2, if_pos h3]
theorem onE_vary (h : ¬ M.length ≤ c.toNat) (h2 : ¬ (c.toNat : Int) ≤ last) (h3 : M.getD c.toNat 0 = 0) (hr : Vary.rd t = (n, k, e)) (he : e ≠ 0) : onE w M last (c :: t) = (e, 0, M, t) := by
  unfold onE; simp only; rw [if_neg h, if_neg h2, if_neg (fun h => h h3), hr, if_pos he]
theorem onE_fits (h : ¬ M.length ≤ c.toNat) (h2 : ¬ (c.toNat : Int) ≤ last) (h3 : M.getD c.toNat 0 = 0) (hr : Vary.rd t = (n, k, 0)) (h4 : Lib.bitLen n ≤ w) : onE w M last (c :: t) = (1, 0, M, t) := by
  unfold onE; simp only; rw [if_neg h, if_neg h2, if_neg (fun h => h h3), hr, if_neg (by simp), if_pos h4]
theorem onE_ok (h : ¬ M.length ≤ c.toNat) (h2 : ¬ (c.toNat : Int) ≤ last) (h3 : M.getD c.toNat 0 = 0) (hr : Vary.rd t = (n, k, 0)) (h4 : ¬ Lib.bitLen n ≤ w) : onE w M last (c :: t) = (0, c.toNat, M.set c.toNat n, t.drop k) := by
  unfold onE; simp only; rw [if_neg h, if_neg h2, if_neg (fun h => h h3), hr, if_neg (by simp), if_neg h4]
end
def onS (w : Nat) : Nat → List Nat → Int → List UInt8 → Nat × List Nat × List UInt8
  | 0, M, _, s => (0, M, s)
  | q + 1, M, last, s => if (onE w M last s).1 ≠ 0 then ((onE w M last s).1, M, s) else onS w q (onE w M last s).2.2.1 (onE w M last s).2.1 (onE w M last s).2.2.2
def add (b : Nat) (M : List Nat) : List Nat × Nat := if M.all (fun x => decide (x + b < 18446744073709551616)) = true then (M.map (· + b), 0) else ([], 8)
end Hy.Pat
end
section
namespace Go.Proofs.YthgnipangcmanaaGreat
open Go.RowKit Hy
set_option maxHeartbeats 1000000 in
set_option maxRecDepth 100000 in
theorem best_any (M : List Nat) (B : Option Addr) (n c base : Nat) (w : World) (hn : M.length = n) (hr : Rd w B (u64s M)) (hl : ∀ x ∈ M, x < 18446744073709551616) (hnl : n ≤ 64) :
    Calls Tryz.prog 143 #[.agg #[.int .u64 base, .slice B n c]] w fun e w' => e = .returned (.int .i64 (Pat.bst M 64 : Nat)) ∧ Ext w w' := by
  have HC := hid (fun wd (h : wd ≤ 64) (wx : World) (hx : Ext w wx) => cost_any M B n c wd base wx hn (hr.keep hx) hl hnl h)
  have HE := hid (fun wd => show Bits.size n wd + Pat.xt wd M = Pat.cst M wd by unfold Pat.cst; rw [hn])
  have HB := hid (fun wd (h : wd ≤ 64) => show Pat.cst M wd ≤ 2000 by
    unfold Pat.cst
    have h1 := Pat.xt_le wd M
    have h2 := Nat.mul_le_mul (show M.length ≤ 64 by omega) h
    unfold Bits.size; omega)
  have HBL := hid (fun k => Pat.bst_le M k)
  have B0 := (Blk.new w 148 #[.int .u64 (base : Int), .slice B n c]).cell
  have p0 : (w.alloc (.cells #[.int .u64 (base : Int), .slice B n c] 148)).cell? ⟨w.heap.size, 0, none⟩ = some (.int .u64 (base : Int)) := B0 0
  have p1 : (w.alloc (.cells #[.int .u64 (base : Int), .slice B n c] 148)).cell? ⟨w.heap.size, 1, none⟩ = some (.slice B n c) := B0 1
  have HX0 := hid ((ext_refl w).new (.cells #[.int .u64 (base : Int), .slice B n c] 148))
  obtain ⟨W1, hW1⟩ : ∃ W1, W1 = w.alloc (.cells #[.int .u64 (base : Int), .slice B n c] 148) := ⟨_, rfl⟩
  rw [← hW1] at p0 p1 HX0
  have hlt1 : w.heap.size < W1.heap.size := by rw [hW1]; simp
  have HW1 := hid hW1
  clear hn hr hl hnl B0 hW1
  go_enter Tryz.func143, Tryz.ntmps143
  go_wp2
  go_loopw [3, 4] (fun b q wr => ∃ i : Nat, 1 ≤ i ∧ i ≤ 65 ∧ q = .int .i64 i ∧ b = .int .i64 (Pat.bst M (i - 1) : Nat) ∧ Ext W1 wr) (fun _ q _ => 65 - (intOf q).toNat)
  case atStart => exact ⟨1, by omega, by omega, rfl, rfl, by rw [HW1.out]; exact ext_refl _⟩
  case round =>
    obtain ⟨i, hi1, hi, rfl, rfl, X⟩ := hrel
    by_cases hlt : i ≤ 64
    · have hltI : (i : Int) ≤ 64 := by omega
      have d0 := (X.cell (p := ⟨w.heap.size, 0, none⟩) hlt1).trans p0
      have d1 := (X.cell (p := ⟨w.heap.size, 1, none⟩) hlt1).trans p1
      have d0r := cell_regrown d0
      have d1r := cell_regrown d1
      have hbl := HBL.out (i - 1)
      have HS := hid (show Pat.bst M i = if Pat.cst M i < Pat.cst M (Pat.bst M (i - 1)) then i else Pat.bst M (i - 1) by
        obtain ⟨j, rfl⟩ : ∃ j, i = j + 1 := ⟨i - 1, by omega⟩
        rfl)
      have C1 := hid (HC.out i hlt)
      have C2 := hid (HC.out (Pat.bst M (i - 1)) (by omega))
      rw [HE.out] at C1 C2
      have q1 := HB.out i hlt
      have q2 := HB.out (Pat.bst M (i - 1)) (by omega)
      generalize Pat.bst M (i - 1) = b at *
      obtain ⟨u, hu⟩ : ∃ u, u = Pat.cst M i := ⟨_, rfl⟩
      obtain ⟨v, hv⟩ : ∃ v, v = Pat.cst M b := ⟨_, rfl⟩
      rw [← hu] at C1 HS q1
      rw [← hv] at C2 HS q2
      have huI : (u : Int) ≤ 2000 := by omega
      have hvI : (v : Int) ≤ 2000 := by omega
      have hbI : (b : Int) ≤ 64 := by omega
      have HX := hid (HX0.out.then X)
      have HXW := hid X
      have HI := hid hlt
      clear q1 q2 hu hv hbl X d0 d1 hlt hi hi1
      go_wp2
      refine wp_region_walk [(0, true), (1, true), (3, true), (4, true), (2, false), (5, false), (6, true)] (by kernel_rfl) (by kernel_rfl) (fun _ _ _ _ _ h => h) (by kernel_rfl) (by rfl) ?_
      simp only [List.filterMap_cons, List.filterMap_nil, List.getElem?_toArray, List.getElem?_cons_zero, List.getElem?_cons_succ, Option.map_some]
      repeat (refine wpM_val (by rfl) ?_; intro K hK; go_big_quiet_op; go_big_quiet_on)
      have Y1 : Ext wr wr.drew := Ext.draw (ext_refl wr)
      refine wpM_do (by rfl) ?_
      intro K hK
      go_simp
      refine Calls.mono (C1.out _ (HX.out.then Y1)) ?_
      rintro e w2 ⟨rfl, hx⟩
      have Y2 := Y1.then hx
      refine hK _ _ Y2 ?_
      clear K hK hx
      refine wpM_do (by rfl) ?_
      intro K hK
      go_simp
      refine Calls.mono (C2.out _ (HX.out.then Y2)) ?_
      rintro e w3 ⟨rfl, hx⟩
      have Y3 := Y2.then hx
      refine hK _ _ Y3 ?_
      clear K hK hx
      repeat (refine wpM_val (by rfl) ?_; intro K hK; go_big_quiet_op; go_big_quiet_on)
      refine wpM_nil ?_
      have HXE := hid (HXW.out.then Y3)
      clear Y1 Y2 Y3 d0r d1r
      by_cases huv : u < v
      · have huvI : (u : Int) < (v : Int) := by omega
        have HV := hid (show Pat.bst M i = i by rw [HS.out, if_pos huv])
        clear huv
        go_wp2
        go_roundw
        case rel => exact ⟨i + 1, by omega, by have := HI.out; omega, by go_num, by rw [Nat.add_sub_cancel, HV.out], HXE.out⟩
        case measure => have := HI.out; simp [intOf]; omega
      · have huvI : ¬ (u : Int) < (v : Int) := by omega
        have HV := hid (show Pat.bst M i = b by rw [HS.out, if_neg huv])
        clear huv
        go_wp2
        go_roundw
        case rel => exact ⟨i + 1, by omega, by have := HI.out; omega, by go_num, by rw [Nat.add_sub_cancel, HV.out], HXE.out⟩
        case measure => have := HI.out; simp [intOf]; omega
    · obtain rfl : i = 65 := by omega
      go_wp2
      go_returns
      exact ⟨rfl, HX0.out.then X⟩
end Go.Proofs.YthgnipangcmanaaGreat
end
section
namespace Go.Proofs.YthgnipangcmanaaGreat
open Go.RowKit Hy
set_option maxRecDepth 100000 in
set_option maxHeartbeats 1000000 in
theorem costOf_any (l : List Nat) (A : Option Addr) (n cap wd : Nat) (w : World) (hn : l.length = n) (hr : Rd w A (u64s l)) (hl : ∀ x ∈ l, x < 18446744073709551616) (hnl : n ≤ 64) (hwd : wd ≤ 64) :
    Calls Tryz.prog 135 #[.slice A n cap, .int .i64 wd] w fun e w' => e = .returned (.int .i64 (Pat.cst (Pat.mor l) wd : Nat)) ∧ Ext w w' := by
  obtain ⟨p, hp⟩ : ∃ p, p = n * wd := ⟨_, rfl⟩
  have hmul : (n : Int) * (wd : Int) = (p : Int) := by rw [hp]; simp
  have hpb : p ≤ 64 * 64 := by rw [hp]; exact Nat.mul_le_mul hnl hwd
  have hpI : (p : Int) ≤ 4096 := by omega
  obtain ⟨z, hz⟩ : ∃ z, z = Bits.size n wd := ⟨_, rfl⟩
  have hz2 : z = (p + 7) / 8 := by rw [hz, hp]; rfl
  have hnI : (n : Int) ≤ 64 := by omega
  have hwI : (wd : Int) ≤ 64 := by omega
  have HV := hid (show Pat.cst (Pat.mor l) wd = z + Pat.xt wd (Pat.mor l) by unfold Pat.cst; rw [Pat.mor_len, hn, hz])
  rw [HV.out]
  obtain ⟨q, hq⟩ : ∃ q, q = p / 8 := ⟨_, rfl⟩
  have hq1 : (p : Int) / 8 = (q : Int) := by omega
  have hq2 : (p : Int).tdiv 8 = (q : Int) := by rw [Int.tdiv_eq_ediv_of_nonneg (by omega)]; omega
  have hqI : (q : Int) ≤ 512 := by omega
  have hzI : (z : Int) ≤ 513 := by omega
  have CB := hid (fun wx (hx : Ext w wx) => baseOf_any l A n cap wx hn (hr.keep hx) hl hnl)
  have hb := Pat.bas_lt l hl
  have HLE := hid (Pat.bas_le l)
  have HMOR := hid (show Pat.mor l = l.map (· - Pat.bas l) from rfl)
  obtain ⟨b, hbb⟩ : ∃ b, b = Pat.bas l := ⟨_, rfl⟩
  rw [← hbb] at CB hb HLE HMOR
  have hbI : (b : Int) ≤ 18446744073709551615 := by omega
  have HR := hid hr
  have HN := hid hn
  have HL := hid hl
  have HNL := hid hnl
  have HWD := hid hwd
  rcases Nat.eq_zero_or_pos (p % 8) with h8 | h8
  · have h8I : (p : Int) % 8 = 0 := by omega
    have h8t : (p : Int).tmod 8 = 0 := by rw [Int.tmod_eq_emod_of_nonneg (by omega)]; omega
    have HZQ := hid (show z = q by omega)
    clear hr hn hl hnl hp hpb hz hz2 hwd hb hbb hq h8
    go_enter Tryz.func135, Tryz.ntmps135
    go_wp2
    go_loopw [5, 6, 7] (fun t c _ wr => ∃ i : Nat, i ≤ n ∧ c = .int .i64 i ∧ t = .int .i64 ((z + Pat.xt wd ((l.take i).map (· - b)) : Nat) : Int) ∧ Ext w wr) (fun _ c _ _ => n - (intOf c).toNat)
    case atStart => exact ⟨0, Nat.zero_le _, rfl, by rw [HZQ.out]; rfl, ext_refl _⟩
    case round =>
      obtain ⟨i, hi, rfl, rfl, X⟩ := hrel
      have hx1 := Pat.xt_le wd ((l.take i).map (· - b))
      have hti : ((l.take i).map (· - b)).length = i := by rw [List.length_map, List.length_take, HN.out]; omega
      rw [hti] at hx1
      by_cases hlt : i < n
      · have hltI : (i : Int) < (n : Int) := by omega
        obtain ⟨x, hx⟩ : ∃ x, l[i]? = some x := ⟨_, List.getElem?_eq_getElem (by rw [HN.out]; exact hlt)⟩
        have hxl := HL.out x (List.mem_of_getElem? hx)
        have hbx := HLE.out x (List.mem_of_getElem? hx)
        obtain ⟨b1, o1, rfl, l1, c1⟩ := HR.out.num00 (by rw [HN.out]; omega)
        have d0 := (X.cell (p := ⟨b1, o1 + i, none⟩) l1).trans (c1 i x hx)
        have HS := hid (show Pat.xt wd ((l.take (i + 1)).map (· - b)) = Pat.xt wd ((l.take i).map (· - b)) + Pat.one wd (x - b) by
          rw [take_succ_snoc' hx, List.map_append]; exact Pat.xt_snoc wd _ _)
        obtain ⟨y, hy⟩ : ∃ y, y = x - b := ⟨_, rfl⟩
        rw [← hy] at HS
        have hyl : y < 18446744073709551616 := by omega
        have CF := hid (fun wx => fits_any y wd wx hyl (by have := HWD.out; omega))
        have CW := hid (fun wx => varyBytes_any y wx hyl)
        have hsub : (x : Int) - (b : Int) = (y : Int) := by omega
        have hxI : (x : Int) ≤ 18446744073709551615 := by omega
        have hyI : (y : Int) ≤ 18446744073709551615 := by omega
        have hwy : IntKind.u64.wrap (y : Int) = (y : Int) := by rw [IntKind.wrap_u64]; omega
        generalize Pat.xt wd ((l.take i).map (· - b)) = acc at *
        have haI : (acc : Int) ≤ 640 := by have := HNL.out; omega
        have ha0 : (0 : Int) ≤ (acc : Int) := by omega
        have HX := hid X
        have d0r := cell_regrown d0
        by_cases ho : wd < Lib.bitLen y
        · rw [Bits.fitsB_false ho] at CF
          obtain ⟨S, hS⟩ : ∃ S : ByteArray, S = ⟨(Vary.wr y).toArray⟩ := ⟨_, rfl⟩
          have hSs : S.size = (Vary.wr y).length := by rw [hS, str_size]
          have hS9 : (S.size : Int) ≤ 9 := by rw [hSs, Vary.wr_len]; have := Vary.beh_le8 y; omega
          have HO := hid (show Pat.one wd y = 1 + S.size by unfold Pat.one; rw [if_pos ho, hSs])
          rw [← hS] at CW
          clear c1 hx hxl hbx hy hyl ho hS hSs hx1 hti X
          go_wp2
          refine wp_region_walk [(0, true), (1, true), (2, true), (3, true), (4, true), (5, false), (6, true), (7, true)] (by kernel_rfl) (by kernel_rfl) (fun _ _ _ _ _ h => h) (by kernel_rfl) (by rfl) ?_
          simp only [List.filterMap_cons, List.filterMap_nil, List.getElem?_toArray, List.getElem?_cons_zero, List.getElem?_cons_succ, Option.map_some]
          repeat (refine wpM_val (by rfl) ?_; intro K hK; go_big_quiet_op; go_big_quiet_on)
          have HY1 : Hid (Ext wr wr.drew) := hid (Ext.draw (ext_refl wr))
          refine wpM_do (by rfl) ?_
          intro K hK
          go_simp
          refine Calls.mono (CB.out _ (HX.out.then HY1.out)) ?_
          rintro e _ ⟨rfl, rfl⟩
          refine hK _ _ HY1.out ?_
          clear K hK
          repeat (refine wpM_val (by rfl) ?_; intro K hK; go_big_quiet_op; go_big_quiet_on)
          refine wpM_nil ?_
          go_wp2_with fail
          refine Calls.mono (CF.out _) ?_
          rintro e _ ⟨rfl, rfl⟩
          go_wp2_with fail
          refine Calls.mono (CW.out _) ?_
          rintro e w2 ⟨rfl, hx⟩
          have X2 := hid ((HX.out.then HY1.out).then hx)
          clear hx
          go_wp2
          go_roundw
          case rel => exact ⟨i + 1, by omega, by go_num, by rw [HS.out, HO.out]; go_num, X2.out⟩
          case measure => simp [intOf]; omega
        · rw [Bits.fitsB_true (by omega)] at CF
          have HO := hid (show Pat.one wd y = 0 by unfold Pat.one; rw [if_neg ho])
          clear c1 hx hxl hbx hy hyl ho hx1 hti X
          go_wp2
          refine wp_region_walk [(0, true), (1, true), (2, true), (3, true), (4, true), (5, false), (6, true), (7, true)] (by kernel_rfl) (by kernel_rfl) (fun _ _ _ _ _ h => h) (by kernel_rfl) (by rfl) ?_
          simp only [List.filterMap_cons, List.filterMap_nil, List.getElem?_toArray, List.getElem?_cons_zero, List.getElem?_cons_succ, Option.map_some]
          repeat (refine wpM_val (by rfl) ?_; intro K hK; go_big_quiet_op; go_big_quiet_on)
          have HY1 : Hid (Ext wr wr.drew) := hid (Ext.draw (ext_refl wr))
          refine wpM_do (by rfl) ?_
          intro K hK
          go_simp
          refine Calls.mono (CB.out _ (HX.out.then HY1.out)) ?_
          rintro e _ ⟨rfl, rfl⟩
          refine hK _ _ HY1.out ?_
          clear K hK
          repeat (refine wpM_val (by rfl) ?_; intro K hK; go_big_quiet_op; go_big_quiet_on)
          refine wpM_nil ?_
          go_wp2_with fail
          refine Calls.mono (CF.out _) ?_
          rintro e _ ⟨rfl, rfl⟩
          have X2 := hid (HX.out.then HY1.out)
          go_wp2
          go_roundw
          case rel => exact ⟨i + 1, by omega, by go_num, by rw [HS.out, HO.out]; go_num, X2.out⟩
          case measure => simp [intOf]; omega
      · obtain rfl : i = n := by omega
        have htl : l.take i = l := List.take_of_length_le (by rw [HN.out]; exact Nat.le_refl _)
        rw [htl, ← HMOR.out]
        clear hx1 hti htl
        go_wp2
        go_returns
        exact ⟨rfl, X⟩
  · have h8I : (0 : Int) < (p : Int) % 8 := by omega
    have h8t : (0 : Int) < (p : Int).tmod 8 := by rw [Int.tmod_eq_emod_of_nonneg (by omega)]; omega
    have HZQ := hid (show z = q + 1 by omega)
    clear hr hn hl hnl hp hpb hz hz2 hwd hb hbb hq h8
    go_enter Tryz.func135, Tryz.ntmps135
    go_wp2
    go_loopw [5, 6, 7] (fun t c _ wr => ∃ i : Nat, i ≤ n ∧ c = .int .i64 i ∧ t = .int .i64 ((z + Pat.xt wd ((l.take i).map (· - b)) : Nat) : Int) ∧ Ext w wr) (fun _ c _ _ => n - (intOf c).toNat)
    case atStart => exact ⟨0, Nat.zero_le _, rfl, by rw [HZQ.out]; rfl, ext_refl _⟩
    case round =>
      obtain ⟨i, hi, rfl, rfl, X⟩ := hrel
      have hx1 := Pat.xt_le wd ((l.take i).map (· - b))
      have hti : ((l.take i).map (· - b)).length = i := by rw [List.length_map, List.length_take, HN.out]; omega
      rw [hti] at hx1
      by_cases hlt : i < n
      · have hltI : (i : Int) < (n : Int) := by omega
        obtain ⟨x, hx⟩ : ∃ x, l[i]? = some x := ⟨_, List.getElem?_eq_getElem (by rw [HN.out]; exact hlt)⟩
        have hxl := HL.out x (List.mem_of_getElem? hx)
        have hbx := HLE.out x (List.mem_of_getElem? hx)
        obtain ⟨b1, o1, rfl, l1, c1⟩ := HR.out.num00 (by rw [HN.out]; omega)
        have d0 := (X.cell (p := ⟨b1, o1 + i, none⟩) l1).trans (c1 i x hx)
        have HS := hid (show Pat.xt wd ((l.take (i + 1)).map (· - b)) = Pat.xt wd ((l.take i).map (· - b)) + Pat.one wd (x - b) by
          rw [take_succ_snoc' hx, List.map_append]; exact Pat.xt_snoc wd _ _)
        obtain ⟨y, hy⟩ : ∃ y, y = x - b := ⟨_, rfl⟩
        rw [← hy] at HS
        have hyl : y < 18446744073709551616 := by omega
        have CF := hid (fun wx => fits_any y wd wx hyl (by have := HWD.out; omega))
        have CW := hid (fun wx => varyBytes_any y wx hyl)
        have hsub : (x : Int) - (b : Int) = (y : Int) := by omega
        have hxI : (x : Int) ≤ 18446744073709551615 := by omega
        have hyI : (y : Int) ≤ 18446744073709551615 := by omega
        have hwy : IntKind.u64.wrap (y : Int) = (y : Int) := by rw [IntKind.wrap_u64]; omega
        generalize Pat.xt wd ((l.take i).map (· - b)) = acc at *
        have haI : (acc : Int) ≤ 640 := by have := HNL.out; omega
        have ha0 : (0 : Int) ≤ (acc : Int) := by omega
        have HX := hid X
        have d0r := cell_regrown d0
        by_cases ho : wd < Lib.bitLen y
        · rw [Bits.fitsB_false ho] at CF
          obtain ⟨S, hS⟩ : ∃ S : ByteArray, S = ⟨(Vary.wr y).toArray⟩ := ⟨_, rfl⟩
          have hSs : S.size = (Vary.wr y).length := by rw [hS, str_size]
          have hS9 : (S.size : Int) ≤ 9 := by rw [hSs, Vary.wr_len]; have := Vary.beh_le8 y; omega
          have HO := hid (show Pat.one wd y = 1 + S.size by unfold Pat.one; rw [if_pos ho, hSs])
          rw [← hS] at CW
          clear c1 hx hxl hbx hy hyl ho hS hSs hx1 hti X
          go_wp2
          refine wp_region_walk [(0, true), (1, true), (2, true), (3, true), (4, true), (5, false), (6, true), (7, true)] (by kernel_rfl) (by kernel_rfl) (fun _ _ _ _ _ h => h) (by kernel_rfl) (by rfl) ?_
          simp only [List.filterMap_cons, List.filterMap_nil, List.getElem?_toArray, List.getElem?_cons_zero, List.getElem?_cons_succ, Option.map_some]
          repeat (refine wpM_val (by rfl) ?_; intro K hK; go_big_quiet_op; go_big_quiet_on)
          have HY1 : Hid (Ext wr wr.drew) := hid (Ext.draw (ext_refl wr))
          refine wpM_do (by rfl) ?_
          intro K hK
          go_simp
          refine Calls.mono (CB.out _ (HX.out.then HY1.out)) ?_
          rintro e _ ⟨rfl, rfl⟩
          refine hK _ _ HY1.out ?_
          clear K hK
          repeat (refine wpM_val (by rfl) ?_; intro K hK; go_big_quiet_op; go_big_quiet_on)
          refine wpM_nil ?_
          go_wp2_with fail
          refine Calls.mono (CF.out _) ?_
          rintro e _ ⟨rfl, rfl⟩
          go_wp2_with fail
          refine Calls.mono (CW.out _) ?_
          rintro e w2 ⟨rfl, hx⟩
          have X2 := hid ((HX.out.then HY1.out).then hx)
          clear hx
          go_wp2
          go_roundw
          case rel => exact ⟨i + 1, by omega, by go_num, by rw [HS.out, HO.out]; go_num, X2.out⟩
          case measure => simp [intOf]; omega
        · rw [Bits.fitsB_true (by omega)] at CF
          have HO := hid (show Pat.one wd y = 0 by unfold Pat.one; rw [if_neg ho])
          clear c1 hx hxl hbx hy hyl ho hx1 hti X
          go_wp2
          refine wp_region_walk [(0, true), (1, true), (2, true), (3, true), (4, true), (5, false), (6, true), (7, true)] (by kernel_rfl) (by kernel_rfl) (fun _ _ _ _ _ h => h) (by kernel_rfl) (by rfl) ?_
          simp only [List.filterMap_cons, List.filterMap_nil, List.getElem?_toArray, List.getElem?_cons_zero, List.getElem?_cons_succ, Option.map_some]
          repeat (refine wpM_val (by rfl) ?_; intro K hK; go_big_quiet_op; go_big_quiet_on)
          have HY1 : Hid (Ext wr wr.drew) := hid (Ext.draw (ext_refl wr))
          refine wpM_do (by rfl) ?_
          intro K hK
          go_simp
          refine Calls.mono (CB.out _ (HX.out.then HY1.out)) ?_
          rintro e _ ⟨rfl, rfl⟩
          refine hK _ _ HY1.out ?_
          clear K hK
          repeat (refine wpM_val (by rfl) ?_; intro K hK; go_big_quiet_op; go_big_quiet_on)
          refine wpM_nil ?_
          go_wp2_with fail
          refine Calls.mono (CF.out _) ?_
          rintro e _ ⟨rfl, rfl⟩
          have X2 := hid (HX.out.then HY1.out)
          go_wp2
          go_roundw
          case rel => exact ⟨i + 1, by omega, by go_num, by rw [HS.out, HO.out]; go_num, X2.out⟩
          case measure => simp [intOf]; omega
      · obtain rfl : i = n := by omega
        have htl : l.take i = l := List.take_of_length_le (by rw [HN.out]; exact Nat.le_refl _)
        rw [htl, ← HMOR.out]
        clear hx1 hti htl
        go_wp2
        go_returns
        exact ⟨rfl, X⟩
end Go.Proofs.YthgnipangcmanaaGreat
end
section
namespace Go.Proofs.YthgnipangcmanaaGreat
open Go.RowKit Hy
def PRd (g : Nat) (w : World) (s : List UInt8) : Prop := Blk w g 163 #[.string ⟨s.toArray⟩]
set_option maxHeartbeats 400000 in
theorem pBytes_any (s : List UInt8) (n g : Nat) (w : World) (h : PRd g w s) (hn : n ≤ 9223372036854775806) :
    Calls Tryz.prog 183 #[.pointer (some ⟨g, 0, none⟩), .int .i64 n] w fun e w' =>
      (s.length < n ∧ e = .returned (.tuple #[.string ⟨#[]⟩, .int .i64 5]) ∧ PRd g w' s ∧ But g w w') ∨ (n ≤ s.length ∧ e = .returned (.tuple #[.string ⟨(s.take n).toArray⟩, .int .i64 0]) ∧ PRd g w' (s.drop n) ∧ But g w w') := by
  have HB := hid h
  obtain ⟨XX, hXX⟩ : ∃ XX : ByteArray, XX = ⟨s.toArray⟩ := ⟨_, rfl⟩
  have hXs : XX.size = s.length := by rw [hXX, str_size]
  have HXd := hid (show XX.data.toList = s by rw [hXX])
  unfold PRd at h
  rw [← hXX] at h
  have HBX := hid h
  have hc0 := h.cell 0
  have hf0 := h.frozen 0
  have hnI : (n : Int) ≤ 9223372036854775806 := by omega
  by_cases hs : s.length < n
  · have hsI : (XX.size : Int) < (n : Int) := by omega
    have HS := hid hs
    clear h hXX hs hn
    go_enter Tryz.func183, Tryz.ntmps183
    go_wp2
    go_returns
    exact .inl ⟨HS.out, rfl, HB.out, but_refl _ _⟩
  · have hsI : (n : Int) ≤ (XX.size : Int) := by omega
    have i2 := fun wx : World => run_to (P := Tryz.prog) (w := wx) Tryz.underlying9 XX .i64 n (by omega)
    have i3 := fun wx : World => run_from (P := Tryz.prog) (w := wx) Tryz.underlying9 XX .i64 n (by omega)
    rw [HXd.out] at i2 i3
    obtain ⟨XT, hXT⟩ : ∃ XT : ByteArray, XT = ⟨(s.take n).toArray⟩ := ⟨_, rfl⟩
    obtain ⟨XD, hXD⟩ : ∃ XD : ByteArray, XD = ⟨(s.drop n).toArray⟩ := ⟨_, rfl⟩
    rw [← hXT] at i2
    rw [← hXD] at i3
    have HXT := hid hXT
    have HXD := hid hXD
    have HS := hid (show n ≤ s.length by omega)
    clear h hXX hs hn hXT hXD
    go_enter Tryz.func183, Tryz.ntmps183
    go_wp2
    go_returns
    refine .inr ⟨HS.out, by rw [← HXT.out]; rfl, ?_, but_put_g _ _⟩
    unfold PRd
    rw [← HXD.out]
    exact (HBX.out.set 0 _).cast rfl
where but_put_g {g : Nat} (w : World) (u : Value) : But g w (w.setCell ⟨g, 0, none⟩ u) := (but_refl g w).put ⟨g, 0, none⟩ (.inl rfl) u
set_option maxHeartbeats 400000 in
theorem pNumber_any (s : List UInt8) (g : Nat) (w : World) (h : PRd g w s) (hs : s.length ≤ 281474976710656) (a k e0 : Nat) (hrd : Vary.rd s = (a, k, e0)) (hk : k ≤ s.length) :
    Calls Tryz.prog 182 #[.pointer (some ⟨g, 0, none⟩)] w fun e w' => e = .returned (.tuple #[.int .u64 a, .int .i64 e0]) ∧ PRd g w' (s.drop k) ∧ But g w w' := by
  obtain ⟨XX, hXX⟩ : ∃ XX : ByteArray, XX = ⟨s.toArray⟩ := ⟨_, rfl⟩
  have hXs : XX.size = s.length := by rw [hXX, str_size]
  have HXd := hid (show XX.data.toList = s by rw [hXX])
  unfold PRd at h
  rw [← hXX] at h
  have HBX := hid h
  have hc0 := h.cell 0
  have CR : ∀ wx : World, Hid (Calls Tryz.prog 52 #[.string XX] wx fun e' w' => e' = .returned (.tuple #[.int .u64 a, .int .i64 k, .int .i64 e0]) ∧ Ext wx w') := fun wx => by
    have := read_any XX wx
    rw [HXd.out, hrd] at this
    exact hid this
  have hT := fun wx : World => run_from (P := Tryz.prog) (w := wx) Tryz.underlying9 XX .i64 k (by omega)
  rw [HXd.out] at hT
  obtain ⟨XD, hXD⟩ : ∃ XD : ByteArray, XD = ⟨(s.drop k).toArray⟩ := ⟨_, rfl⟩
  rw [← hXD] at hT
  have HXD := hid hXD
  have hkI : (k : Int) ≤ 281474976710656 := by omega
  clear h hXX hXD hrd hk hs
  go_enter Tryz.func182, Tryz.ntmps182
  go_wp2_with fail
  refine Calls.mono (CR _).out ?_
  rintro e w1 ⟨rfl, hx⟩
  have HX := hid hx
  have HB1 := hid (HBX.out.keep hx)
  have hc0 := HB1.out.cell 0
  have hf0 := HB1.out.frozen 0
  clear hx
  go_wp2
  go_returns
  refine ⟨rfl, ?_, ((but_refl g w).ext HX.out).put ⟨g, 0, none⟩ (.inl rfl) _⟩
  unfold PRd
  rw [← HXD.out]
  exact (HB1.out.set 0 _).cast rfl
end Go.Proofs.YthgnipangcmanaaGreat
end
section
namespace Hy
open Go Go.RowKit
theorem u64s_set (l : List Nat) (i x : Nat) : (u64s l).set i (.int .u64 (x : Int)) = u64s (l.set i x) := by unfold u64s; rw [List.map_set]
theorem But.next {g : Nat} {w w' w'' : World} (h : But g w w') (k : But g w' w'') : But g w w'' :=
  ⟨k.os.trans h.os, k.tape.trans h.tape, k.output.trans h.output, Nat.le_trans h.size k.size, fun i hi hn => (k.block i (Nat.lt_of_lt_of_le hi h.size) hn).trans (h.block i hi hn)⟩
structure But2 (g : Nat) (o : Option Nat) (w w' : World) : Prop where
  os : w'.os = w.os
  tape : w'.tape = w.tape
  output : w'.output = w.output
  size : w.heap.size ≤ w'.heap.size
  block : ∀ i, i < w.heap.size → i ≠ g → o ≠ some i → w'.heap[i]? = w.heap[i]?
theorem But.two {g : Nat} {w w' : World} (h : But g w w') (o : Option Nat) : But2 g o w w' := ⟨h.os, h.tape, h.output, h.size, fun i hi hn _ => h.block i hi (by intro e; injection e with e; exact hn e)⟩
theorem But2.next {g : Nat} {o : Option Nat} {w w' w'' : World} (h : But2 g o w w') (k : But2 g o w' w'') : But2 g o w w'' :=
  ⟨k.os.trans h.os, k.tape.trans h.tape, k.output.trans h.output, Nat.le_trans h.size k.size, fun i hi hn ho => (k.block i (Nat.lt_of_lt_of_le hi h.size) hn ho).trans (h.block i hi hn ho)⟩
theorem But2.put {g b i : Nat} {o : Option Nat} {w w' : World} (h : But2 g o w w') (hb : o = some b) (u : Value) : But2 g o w (w'.setCell ⟨b, i, none⟩ u) := by
  have hs : (w'.setCell ⟨b, i, none⟩ u).heap.size = w'.heap.size := by unfold World.setCell; split <;> simp
  refine ⟨?_, ?_, ?_, by rw [hs]; exact h.size, fun j hj hn ho => ?_⟩
  · rw [show (w'.setCell ⟨b, i, none⟩ u).os = w'.os from by unfold World.setCell; split <;> rfl]; exact h.os
  · rw [show (w'.setCell ⟨b, i, none⟩ u).tape = w'.tape from by unfold World.setCell; split <;> rfl]; exact h.tape
  · rw [show (w'.setCell ⟨b, i, none⟩ u).output = w'.output from by unfold World.setCell; split <;> rfl]; exact h.output
  · rw [Below.heap_setCell w' ⟨b, i, none⟩ u j (fun e => ho (by rw [hb, show j = b from e]))]
    exact h.block j hj hn ho
theorem But2.below {g : Nat} {o : Option Nat} {w w' : World} (h : But2 g o w w') {base : Nat} (hg : base ≤ g) (hw : base ≤ w.heap.size) (ho : ∀ b, o = some b → base ≤ b) : Below base w w' :=
  ⟨h.os, h.tape, h.output, h.size, fun k hk => h.block k (by omega) (by omega) (fun e => by have := ho k e; omega)⟩
theorem Blk.but {g g' : Nat} {w w' : World} {t : TypeId} {cs : Array Value} (h : Blk w g' t cs) (hx : But g w w') (hne : g' ≠ g) : Blk w' g' t cs := (hx.block g' h.lt (by intro e; injection e with e; exact hne e)).trans h
theorem Blk.but2 {g g' : Nat} {o : Option Nat} {w w' : World} {t : TypeId} {cs : Array Value} (h : Blk w g' t cs) (hx : But2 g o w w') (hne : g' ≠ g) (ho : o ≠ some g') : Blk w' g' t cs := (hx.block g' h.lt hne ho).trans h
end Hy
namespace Go.Proofs.YthgnipangcmanaaGreat
open Go.RowKit Hy
def POne (g base wd : Nat) (M : List Nat) (last : Int) (s : List UInt8) (v : Value) (w : World) (e : Ending) (w' : World) : Prop :=
  e = .returned (.tuple #[.int .i64 ((Pat.onE wd M last s).2.1 : Nat), .int .i64 ((Pat.onE wd M last s).1 : Nat)]) ∧ But2 g v.ownBlock w w' ∧
    ((Pat.onE wd M last s).1 = 0 → PRd g w' (Pat.onE wd M last s).2.2.2 ∧ w'.ownsRow base 34 1 v M.length (u64s (Pat.onE wd M last s).2.2.1))
set_option maxHeartbeats 1000000 in
theorem pOne_nil (M : List Nat) (last : Int) (g base wd : Nat) (v : Value) (w : World) (h : PRd g w []) :
    Calls Tryz.prog 184 #[.pointer (some ⟨g, 0, none⟩), v, .int .i64 wd, .int .i64 last] w (POne g base wd M last [] v w) := by
  have HB := hid (pBytes_any [] 1 g w h (by decide))
  have HLT := hid (show g < w.heap.size from Blk.lt h)
  unfold POne
  rw [Pat.onE_nil]
  clear h
  go_enter Tryz.func184, Tryz.ntmps184
  go_wp2_with fail
  refine Calls.mono HB.out ?_
  rintro e w1 (⟨_, rfl, _, hb⟩ | ⟨h1, _⟩)
  · have HBT := hid hb
    clear hb
    go_wp2
    go_returns
    exact ⟨rfl, HBT.out.two _, fun h => by cases h⟩
  · exact absurd h1 (by simp)
set_option maxHeartbeats 1000000 in
theorem pOne_range (M : List Nat) (last : Int) (c : UInt8) (t : List UInt8) (g base wd : Nat) (v : Value) (w : World) (h : PRd g w (c :: t)) (hgb : g < base) (ho : w.ownsRow base 34 1 v M.length (u64s M)) (hM : M.length ≤ 64) (hr : M.length ≤ c.toNat) :
    Calls Tryz.prog 184 #[.pointer (some ⟨g, 0, none⟩), v, .int .i64 wd, .int .i64 last] w (POne g base wd M last (c :: t) v w) := by
  have HB := hid (pBytes_any (c :: t) 1 g w h (by decide))
  have HLT := hid (show g < w.heap.size from Blk.lt h)
  have hI := fun wx : World => run_ix0 (P := Tryz.prog) (w := wx) Tryz.underlying9 ⟨[c].toArray⟩ .i64 c [] rfl
  obtain ⟨XC, hXC⟩ : ∃ S : ByteArray, S = ⟨[c].toArray⟩ := ⟨_, rfl⟩
  rw [show (⟨((c :: t).take 1).toArray⟩ : ByteArray) = XC from hXC.symm, show (c :: t).drop 1 = t from rfl] at HB
  rw [← hXC] at hI
  have hzI : (c.toNat : Int) ≤ 255 := by have := c.toNat_lt; omega
  have HO := hid ho
  have hmI : (M.length : Int) ≤ 64 := by omega
  have HGB := hid hgb
  unfold POne
  rw [Pat.onE_range hr]
  have hrI : (M.length : Int) ≤ (c.toNat : Int) := by omega
  clear h ho hM hXC hgb hr
  generalize c.toNat = z at *
  go_enter Tryz.func184, Tryz.ntmps184
  go_wp2_with fail
  refine Calls.mono HB.out ?_
  rintro e w1 (⟨h1, _⟩ | ⟨_, rfl, hst, hb⟩)
  · exact absurd h1 (by simp)
  · have HBT := hid hb
    have HST := hid hst
    have HO1 := hid (own_but HO.out hb HGB.out)
    obtain ⟨A3, c3, rfl, hrd, _⟩ := Rd.owned HO1.out
    have HRD := hid hrd
    clear hb hst hrd
    go_wp2
    go_returns
    exact ⟨rfl, HBT.out.two _, fun h => by cases h⟩
set_option maxHeartbeats 1000000 in
theorem pOne_state (M : List Nat) (last : Int) (c : UInt8) (t : List UInt8) (g base wd : Nat) (v : Value) (w : World) (h : PRd g w (c :: t)) (hgb : g < base) (ho : w.ownsRow base 34 1 v M.length (u64s M)) (hM : M.length ≤ 64) (hr : ¬ M.length ≤ c.toNat) (hs : (c.toNat : Int) ≤ last) :
    Calls Tryz.prog 184 #[.pointer (some ⟨g, 0, none⟩), v, .int .i64 wd, .int .i64 last] w (POne g base wd M last (c :: t) v w) := by
  have HB := hid (pBytes_any (c :: t) 1 g w h (by decide))
  have HLT := hid (show g < w.heap.size from Blk.lt h)
  have hI := fun wx : World => run_ix0 (P := Tryz.prog) (w := wx) Tryz.underlying9 ⟨[c].toArray⟩ .i64 c [] rfl
  obtain ⟨XC, hXC⟩ : ∃ S : ByteArray, S = ⟨[c].toArray⟩ := ⟨_, rfl⟩
  rw [show (⟨((c :: t).take 1).toArray⟩ : ByteArray) = XC from hXC.symm, show (c :: t).drop 1 = t from rfl] at HB
  rw [← hXC] at hI
  have hzI : (c.toNat : Int) ≤ 255 := by have := c.toNat_lt; omega
  have HO := hid ho
  have hmI : (M.length : Int) ≤ 64 := by omega
  have HGB := hid hgb
  unfold POne
  rw [Pat.onE_state hr hs]
  have hrI : (c.toNat : Int) < (M.length : Int) := by omega
  clear h ho hM hXC hgb hr
  generalize c.toNat = z at *
  go_enter Tryz.func184, Tryz.ntmps184
  go_wp2_with fail
  refine Calls.mono HB.out ?_
  rintro e w1 (⟨h1, _⟩ | ⟨_, rfl, hst, hb⟩)
  · exact absurd h1 (by simp)
  · have HBT := hid hb
    have HST := hid hst
    have HO1 := hid (own_but HO.out hb HGB.out)
    obtain ⟨A3, c3, rfl, hrd, _⟩ := Rd.owned HO1.out
    have HRD := hid hrd
    clear hb hst hrd
    go_wp2
    go_returns
    exact ⟨rfl, HBT.out.two _, fun h => by cases h⟩
set_option maxHeartbeats 1000000 in
theorem pOne_form (M : List Nat) (last : Int) (c : UInt8) (t : List UInt8) (g base wd : Nat) (v : Value) (w : World) (h : PRd g w (c :: t)) (hgb : g < base) (ho : w.ownsRow base 34 1 v M.length (u64s M)) (hM : M.length ≤ 64) (hr : ¬ M.length ≤ c.toNat) (hs : ¬ (c.toNat : Int) ≤ last) (x : Nat) (hx : M[c.toNat]? = some x) (hx0 : x ≠ 0) :
    Calls Tryz.prog 184 #[.pointer (some ⟨g, 0, none⟩), v, .int .i64 wd, .int .i64 last] w (POne g base wd M last (c :: t) v w) := by
  have HB := hid (pBytes_any (c :: t) 1 g w h (by decide))
  have HLT := hid (show g < w.heap.size from Blk.lt h)
  have hI := fun wx : World => run_ix0 (P := Tryz.prog) (w := wx) Tryz.underlying9 ⟨[c].toArray⟩ .i64 c [] rfl
  obtain ⟨XC, hXC⟩ : ∃ S : ByteArray, S = ⟨[c].toArray⟩ := ⟨_, rfl⟩
  rw [show (⟨((c :: t).take 1).toArray⟩ : ByteArray) = XC from hXC.symm, show (c :: t).drop 1 = t from rfl] at HB
  rw [← hXC] at hI
  have hzI : (c.toNat : Int) ≤ 255 := by have := c.toNat_lt; omega
  have HO := hid ho
  have hmI : (M.length : Int) ≤ 64 := by omega
  have HGB := hid hgb
  unfold POne
  rw [Pat.onE_form hr hs (by rw [List.getD_eq_getElem?_getD, hx]; exact hx0)]
  have hrI : (c.toNat : Int) < (M.length : Int) := by omega
  have h3 : ((x : Int) != 0) = true := by rw [bne_iff_ne]; omega
  have h4 : ((x : Int) == 0) = false := by rw [beq_eq_false_iff_ne]; omega
  have HXX := hid hx
  clear h ho hM hXC hgb hr hx hx0
  generalize c.toNat = z at *
  go_enter Tryz.func184, Tryz.ntmps184
  go_wp2_with fail
  refine Calls.mono HB.out ?_
  rintro e w1 (⟨h1, _⟩ | ⟨_, rfl, hst, hb⟩)
  · exact absurd h1 (by simp)
  · have HBT := hid hb
    have HST := hid hst
    have HO1 := hid (own_but HO.out hb HGB.out)
    obtain ⟨A3, c3, rfl, hrd, _⟩ := Rd.owned HO1.out
    have HRD := hid hrd
    clear hb hst hrd
    obtain ⟨b1, o1, e1, l1, cc⟩ := HRD.out.num00 (Nat.lt_of_le_of_lt (Nat.zero_le _) (List.getElem?_eq_some_iff.1 HXX.out).1)
    cases e1
    have d0 := cc _ x HXX.out
    clear cc
    go_wp2
    go_returns
    exact ⟨rfl, HBT.out.two _, fun h => by cases h⟩
set_option maxHeartbeats 1000000 in
theorem pOne_vary (M : List Nat) (last : Int) (c : UInt8) (t : List UInt8) (g base wd : Nat) (v : Value) (w : World) (h : PRd g w (c :: t)) (hgb : g < base) (ho : w.ownsRow base 34 1 v M.length (u64s M)) (hM : M.length ≤ 64) (hr : ¬ M.length ≤ c.toNat) (hs : ¬ (c.toNat : Int) ≤ last) (hx : M[c.toNat]? = some 0) (hts : t.length ≤ 281474976710656) (a k e0 : Nat) (hrd : Vary.rd t = (a, k, e0)) (hk : k ≤ t.length) (he : e0 ≠ 0) :
    Calls Tryz.prog 184 #[.pointer (some ⟨g, 0, none⟩), v, .int .i64 wd, .int .i64 last] w (POne g base wd M last (c :: t) v w) := by
  have HB := hid (pBytes_any (c :: t) 1 g w h (by decide))
  have HLT := hid (show g < w.heap.size from Blk.lt h)
  have hI := fun wx : World => run_ix0 (P := Tryz.prog) (w := wx) Tryz.underlying9 ⟨[c].toArray⟩ .i64 c [] rfl
  obtain ⟨XC, hXC⟩ : ∃ S : ByteArray, S = ⟨[c].toArray⟩ := ⟨_, rfl⟩
  rw [show (⟨((c :: t).take 1).toArray⟩ : ByteArray) = XC from hXC.symm, show (c :: t).drop 1 = t from rfl] at HB
  rw [← hXC] at hI
  have hzI : (c.toNat : Int) ≤ 255 := by have := c.toNat_lt; omega
  have HO := hid ho
  have hmI : (M.length : Int) ≤ 64 := by omega
  have HGB := hid hgb
  unfold POne
  rw [Pat.onE_vary hr hs (by rw [List.getD_eq_getElem?_getD, hx]; rfl) hrd he]
  have hrI : (c.toNat : Int) < (M.length : Int) := by omega
  have HNU := hid (fun wx (h : PRd g wx t) => pNumber_any t g wx h hts a k e0 hrd hk)
  have h5 : ((e0 : Int) != 0) = true := by rw [bne_iff_ne]; omega
  have h6 : ((e0 : Int) == 0) = false := by rw [beq_eq_false_iff_ne]; omega
  have HE := hid he
  have HXX := hid hx
  clear h ho hM hXC hgb hr hx hrd he
  generalize c.toNat = z at *
  go_enter Tryz.func184, Tryz.ntmps184
  go_wp2_with fail
  refine Calls.mono HB.out ?_
  rintro e w1 (⟨h1, _⟩ | ⟨_, rfl, hst, hb⟩)
  · exact absurd h1 (by simp)
  · have HBT := hid hb
    have HST := hid hst
    have HO1 := hid (own_but HO.out hb HGB.out)
    obtain ⟨A3, c3, rfl, hrd, _⟩ := Rd.owned HO1.out
    have HRD := hid hrd
    clear hb hst hrd
    obtain ⟨b1, o1, e1, l1, cc⟩ := HRD.out.num00 (Nat.lt_of_le_of_lt (Nat.zero_le _) (List.getElem?_eq_some_iff.1 HXX.out).1)
    cases e1
    have d0 := cc _ 0 HXX.out
    clear cc
    go_wp2_with fail
    refine Calls.mono (HNU.out _ HST.out) ?_
    rintro e w2 ⟨rfl, hst2, hb2⟩
    have HBL := hid (HBT.out.next hb2)
    have HST2 := hid hst2
    have HO2 := hid (own_but HO1.out hb2 HGB.out)
    clear hst2 hb2
    go_wp2
    go_returns
    exact ⟨rfl, HBL.out.two _, fun h => absurd h HE.out⟩
set_option maxHeartbeats 1000000 in
theorem pOne_fits (M : List Nat) (last : Int) (c : UInt8) (t : List UInt8) (g base wd : Nat) (v : Value) (w : World) (h : PRd g w (c :: t)) (hgb : g < base) (ho : w.ownsRow base 34 1 v M.length (u64s M)) (hM : M.length ≤ 64) (hr : ¬ M.length ≤ c.toNat) (hs : ¬ (c.toNat : Int) ≤ last) (hx : M[c.toNat]? = some 0) (hts : t.length ≤ 281474976710656) (a k e0 : Nat) (hrd : Vary.rd t = (a, k, e0)) (hk : k ≤ t.length) (he : e0 = 0) (ha : a < 18446744073709551616) (hf : Lib.bitLen a ≤ wd) :
    Calls Tryz.prog 184 #[.pointer (some ⟨g, 0, none⟩), v, .int .i64 wd, .int .i64 last] w (POne g base wd M last (c :: t) v w) := by
  have HB := hid (pBytes_any (c :: t) 1 g w h (by decide))
  have HLT := hid (show g < w.heap.size from Blk.lt h)
  have hI := fun wx : World => run_ix0 (P := Tryz.prog) (w := wx) Tryz.underlying9 ⟨[c].toArray⟩ .i64 c [] rfl
  obtain ⟨XC, hXC⟩ : ∃ S : ByteArray, S = ⟨[c].toArray⟩ := ⟨_, rfl⟩
  rw [show (⟨((c :: t).take 1).toArray⟩ : ByteArray) = XC from hXC.symm, show (c :: t).drop 1 = t from rfl] at HB
  rw [← hXC] at hI
  have hzI : (c.toNat : Int) ≤ 255 := by have := c.toNat_lt; omega
  have HO := hid ho
  have hmI : (M.length : Int) ≤ 64 := by omega
  have HGB := hid hgb
  unfold POne
  rw [Pat.onE_fits hr hs (by rw [List.getD_eq_getElem?_getD, hx]; rfl) (by rw [hrd, he]) hf]
  have hrI : (c.toNat : Int) < (M.length : Int) := by omega
  have HNU := hid (fun wx (h : PRd g wx t) => pNumber_any t g wx h hts a k e0 hrd hk)
  subst he
  have COU := hid (fun wx => out_any a wd wx ha)
  rw [decide_eq_false (by omega)] at COU
  have haI : (a : Int) ≤ 18446744073709551615 := by omega
  have HXX := hid hx
  clear h ho hM hXC hgb hr hx hrd ha hf
  generalize c.toNat = z at *
  go_enter Tryz.func184, Tryz.ntmps184
  go_wp2_with fail
  refine Calls.mono HB.out ?_
  rintro e w1 (⟨h1, _⟩ | ⟨_, rfl, hst, hb⟩)
  · exact absurd h1 (by simp)
  · have HBT := hid hb
    have HST := hid hst
    have HO1 := hid (own_but HO.out hb HGB.out)
    obtain ⟨A3, c3, rfl, hrd, _⟩ := Rd.owned HO1.out
    have HRD := hid hrd
    clear hb hst hrd
    obtain ⟨b1, o1, e1, l1, cc⟩ := HRD.out.num00 (Nat.lt_of_le_of_lt (Nat.zero_le _) (List.getElem?_eq_some_iff.1 HXX.out).1)
    cases e1
    have d0 := cc _ 0 HXX.out
    clear cc
    go_wp2_with fail
    refine Calls.mono (HNU.out _ HST.out) ?_
    rintro e w2 ⟨rfl, hst2, hb2⟩
    have HBL := hid (HBT.out.next hb2)
    have HST2 := hid hst2
    have HO2 := hid (own_but HO1.out hb2 HGB.out)
    clear hst2 hb2
    go_wp2_with fail
    refine Calls.mono (COU.out _) ?_
    rintro e _ ⟨rfl, rfl⟩
    go_wp2
    go_returns
    exact ⟨rfl, HBL.out.two _, fun h => by cases h⟩
end Go.Proofs.YthgnipangcmanaaGreat
end
section
namespace Hy.Vary
theorem rd_bd (s : List UInt8) : (rd s).2.1 ≤ s.length ∧ (rd s).1 < 18446744073709551616 ∧ (rd s).2.2 ≤ 5 := by
  rcases rd_cases s with e | e | ⟨n, k, e, _, hk, hn, _⟩
  · rw [e]; exact ⟨Nat.zero_le _, by decide, by decide⟩
  · rw [e]; exact ⟨Nat.zero_le _, by decide, by decide⟩
  · rw [e]; exact ⟨hk, hn, by simp⟩
end Hy.Vary
namespace Hy.Pat
open Go
@[irreducible] def fr3 (b w q : Nat) (M : List Nat) (u : List UInt8) : Nat × Nat × List Nat :=
  if (onS w q M (-1) u).1 ≠ 0 then ((onS w q M (-1) u).1, 0, []) else if (onS w q M (-1) u).2.2 ≠ [] then (1, 0, []) else (0, b, (onS w q M (-1) u).2.1)
@[irreducible] def fr2 (b many : Nat) (c d : UInt8) (u : List UInt8) : Nat × Nat × List Nat :=
  if 64 < c.toNat then (3, 0, []) else if u.length < Bits.size many c.toNat then (5, 0, [])
  else if Bits.chk (u.take (Bits.size many c.toNat)) many c.toNat ≠ 0 then (Bits.chk (u.take (Bits.size many c.toNat)) many c.toNat, 0, [])
  else fr3 b c.toNat d.toNat (Bits.unp (u.take (Bits.size many c.toNat)) many c.toNat) (u.drop (Bits.size many c.toNat))
@[irreducible] def fr1 (b many : Nat) (t : List UInt8) : Nat × Nat × List Nat := match t with
  | c :: d :: u => fr2 b many c d u
  | _ => (5, 0, [])
@[irreducible] def fr (s : List UInt8) (many : Nat) : Nat × Nat × List Nat := if (Vary.rd s).2.2 ≠ 0 then ((Vary.rd s).2.2, 0, []) else fr1 (Vary.rd s).1 many (s.drop (Vary.rd s).2.1)
@[irreducible] def rdP (s : List UInt8) (many : Int) : List Nat × Nat :=
  if many < 0 then ([], 3) else if 64 < many then ([], 2) else if (fr s many.toNat).1 ≠ 0 then ([], (fr s many.toNat).1) else add (fr s many.toNat).2.1 (fr s many.toNat).2.2
section
variable {b w q many a k e : Nat} {last : Int} {M : List Nat} {c d : UInt8} {u s t : List UInt8}
theorem fr3_err (h : (onS w q M (-1) u).1 ≠ 0) : fr3 b w q M u = ((onS w q M (-1) u).1, 0, []) := by unfold fr3; rw [if_pos h]
theorem fr3_more (h : (onS w q M (-1) u).1 = 0) (h2 : (onS w q M (-1) u).2.2 ≠ []) : fr3 b w q M u = (1, 0, []) := by unfold fr3; rw [if_neg (fun x => x h), if_pos h2]
theorem fr3_ok (h : (onS w q M (-1) u).1 = 0) (h2 : (onS w q M (-1) u).2.2 = []) : fr3 b w q M u = (0, b, (onS w q M (-1) u).2.1) := by unfold fr3; rw [if_neg (fun x => x h), if_neg (fun x => x h2)]
theorem fr2_wide (h : 64 < c.toNat) : fr2 b many c d u = (3, 0, []) := by unfold fr2; rw [if_pos h]
theorem fr2_short (h : ¬ 64 < c.toNat) (h2 : u.length < Bits.size many c.toNat) : fr2 b many c d u = (5, 0, []) := by unfold fr2; rw [if_neg h, if_pos h2]
theorem fr2_bad (h : ¬ 64 < c.toNat) (h2 : ¬ u.length < Bits.size many c.toNat) (h3 : Bits.chk (u.take (Bits.size many c.toNat)) many c.toNat ≠ 0) : fr2 b many c d u = (Bits.chk (u.take (Bits.size many c.toNat)) many c.toNat, 0, []) := by
  unfold fr2; rw [if_neg h, if_neg h2, if_pos h3]
theorem fr2_ok (h : ¬ 64 < c.toNat) (h2 : ¬ u.length < Bits.size many c.toNat) (h3 : Bits.chk (u.take (Bits.size many c.toNat)) many c.toNat = 0) : fr2 b many c d u = fr3 b c.toNat d.toNat (Bits.unp (u.take (Bits.size many c.toNat)) many c.toNat) (u.drop (Bits.size many c.toNat)) := by
  unfold fr2; rw [if_neg h, if_neg h2, if_neg (fun x => x h3)]
theorem fr1_short (h : t.length < 2) : fr1 b many t = (5, 0, []) := by
  unfold fr1
  match t, h with
  | [], _ => rfl
  | [_], _ => rfl
theorem fr1_cons : fr1 b many (c :: d :: u) = fr2 b many c d u := by unfold fr1; rfl
theorem fr_vary (h : Vary.rd s = (a, k, e)) (he : e ≠ 0) : fr s many = (e, 0, []) := by unfold fr; rw [h, if_pos he]
theorem fr_ok (h : Vary.rd s = (a, k, 0)) : fr s many = fr1 a many (s.drop k) := by unfold fr; rw [h, if_neg (fun x => x rfl)]
theorem rdP_neg {m : Int} (h : m < 0) : rdP s m = ([], 3) := by unfold rdP; rw [if_pos h]
theorem rdP_many {m : Int} (h : 64 < m) : rdP s m = ([], 2) := by unfold rdP; rw [if_neg (by omega), if_pos h]
theorem rdP_err (h : many ≤ 64) (h2 : (fr s many).1 ≠ 0) : rdP s (many : Int) = ([], (fr s many).1) := by unfold rdP; rw [if_neg (by omega), if_neg (by omega), Int.toNat_natCast, if_pos h2]
theorem rdP_ok (h : many ≤ 64) (h2 : (fr s many).1 = 0) : rdP s (many : Int) = add (fr s many).2.1 (fr s many).2.2 := by unfold rdP; rw [if_neg (by omega), if_neg (by omega), Int.toNat_natCast, if_neg (fun x => x h2)]
theorem onE_len : (onE w M last s).2.2.1.length = M.length := by
  unfold onE
  split
  · rfl
  · repeat' split
    all_goals simp
end
theorem onE_bd (w : Nat) (M : List Nat) (last : Int) (s : List UInt8) : (onE w M last s).1 ≤ 5 ∧ (onE w M last s).2.1 ≤ 255 ∧ (onE w M last s).2.2.2.length ≤ s.length := by
  unfold onE
  split
  · simp
  · rename_i c t
    have hr := Vary.rd_bd t
    have hc := c.toNat_lt
    split
    · simp
    split
    · simp
    split
    · simp
    split
    · simp only [List.length_cons]; omega
    split
    · simp
    · simp only [List.length_cons, List.length_drop]; omega
theorem onE_lt (w : Nat) (M : List Nat) (last : Int) (s : List UInt8) (hM : ∀ x ∈ M, x < 18446744073709551616) : ∀ x ∈ (onE w M last s).2.2.1, x < 18446744073709551616 := by
  unfold onE
  split
  · exact hM
  · rename_i c t
    repeat' split
    all_goals first | exact hM | skip
    intro x hx
    rcases List.mem_or_eq_of_mem_set hx with h | rfl
    · exact hM x h
    · exact (Vary.rd_bd t).2.1
theorem onS_succ (w q : Nat) (M : List Nat) (last : Int) (s : List UInt8) : onS w (q + 1) M last s = if (onE w M last s).1 ≠ 0 then ((onE w M last s).1, M, s) else onS w q (onE w M last s).2.2.1 (onE w M last s).2.1 (onE w M last s).2.2.2 := rfl
theorem onS_len (w : Nat) : ∀ (q : Nat) (M : List Nat) (last : Int) (s : List UInt8), (onS w q M last s).2.1.length = M.length
  | 0, _, _, _ => rfl
  | q + 1, M, last, s => by
    rw [onS_succ]
    split
    · rfl
    · rw [onS_len w q, onE_len]
theorem onS_lt (w : Nat) : ∀ (q : Nat) (M : List Nat) (last : Int) (s : List UInt8), (∀ x ∈ M, x < 18446744073709551616) → ∀ x ∈ (onS w q M last s).2.1, x < 18446744073709551616
  | 0, _, _, _, h => h
  | q + 1, M, last, s, h => by
    rw [onS_succ]
    split
    · exact h
    · exact onS_lt w q _ _ _ (onE_lt w M last s h)
end Hy.Pat
end
section
namespace Go.Proofs.YthgnipangcmanaaGreat
open Go.RowKit Hy
set_option maxHeartbeats 1000000 in
theorem pOne_ok (M : List Nat) (last : Int) (c : UInt8) (t : List UInt8) (g base wd : Nat) (v : Value) (w : World) (h : PRd g w (c :: t)) (hgb : g < base) (ho : w.ownsRow base 34 1 v M.length (u64s M)) (hM : M.length ≤ 64) (hr : ¬ M.length ≤ c.toNat) (hs : ¬ (c.toNat : Int) ≤ last) (hx : M[c.toNat]? = some 0) (hts : t.length ≤ 281474976710656) (a k e0 : Nat) (hrd : Vary.rd t = (a, k, e0)) (hk : k ≤ t.length) (he : e0 = 0) (ha : a < 18446744073709551616) (hf : ¬ Lib.bitLen a ≤ wd) :
    Calls Tryz.prog 184 #[.pointer (some ⟨g, 0, none⟩), v, .int .i64 wd, .int .i64 last] w (POne g base wd M last (c :: t) v w) := by
  have HB := hid (pBytes_any (c :: t) 1 g w h (by decide))
  have HLT := hid (show g < w.heap.size from Blk.lt h)
  have hI := fun wx : World => run_ix0 (P := Tryz.prog) (w := wx) Tryz.underlying9 ⟨[c].toArray⟩ .i64 c [] rfl
  obtain ⟨XC, hXC⟩ : ∃ S : ByteArray, S = ⟨[c].toArray⟩ := ⟨_, rfl⟩
  rw [show (⟨((c :: t).take 1).toArray⟩ : ByteArray) = XC from hXC.symm, show (c :: t).drop 1 = t from rfl] at HB
  rw [← hXC] at hI
  have hzI : (c.toNat : Int) ≤ 255 := by have := c.toNat_lt; omega
  have HO := hid ho
  have hmI : (M.length : Int) ≤ 64 := by omega
  have HGB := hid hgb
  unfold POne
  rw [Pat.onE_ok hr hs (by rw [List.getD_eq_getElem?_getD, hx]; rfl) (by rw [hrd, he]) hf]
  have hrI : (c.toNat : Int) < (M.length : Int) := by omega
  have HNU := hid (fun wx (h : PRd g wx t) => pNumber_any t g wx h hts a k e0 hrd hk)
  subst he
  have COU := hid (fun wx => out_any a wd wx ha)
  rw [decide_eq_true (by omega)] at COU
  have haI : (a : Int) ≤ 18446744073709551615 := by omega
  have HXX := hid hx
  clear h ho hM hXC hgb hr hx hrd ha hf
  generalize c.toNat = z at *
  have HZN := hid (show z < M.length by omega)
  go_enter Tryz.func184, Tryz.ntmps184
  go_wp2_with fail
  refine Calls.mono HB.out ?_
  rintro e w1 (⟨h1, _⟩ | ⟨_, rfl, hst, hb⟩)
  · exact absurd h1 (by simp)
  · have HBT := hid hb
    have HST := hid hst
    have HO1 := hid (own_but HO.out hb HGB.out)
    obtain ⟨g3, c3, rfl, hbg, _⟩ := own_base HO1.out (by have := HZN.out; omega)
    have HBG := hid hbg
    have d0 := HO1.out.cellAt z (by have := HZN.out; omega)
    rw [u64s_get _ _ HZN.out, (List.getElem?_eq_some_iff.1 HXX.out).2] at d0
    clear hb hst hbg
    go_wp2_with fail
    refine Calls.mono (HNU.out _ HST.out) ?_
    rintro e w2 ⟨rfl, hst2, hb2⟩
    have HBL := hid (HBT.out.next hb2)
    have HST2 := hid hst2
    have HO2 := hid (own_but HO1.out hb2 HGB.out)
    have d0 := HO2.out.cellAt z (by have := HZN.out; omega)
    rw [u64s_get _ _ HZN.out, (List.getElem?_eq_some_iff.1 HXX.out).2] at d0
    have f0 := HO2.out.frozenAt z
    clear hst2 hb2
    go_wp2_with fail
    refine Calls.mono (COU.out _) ?_
    rintro e _ ⟨rfl, rfl⟩
    go_wp2
    go_returns
    refine ⟨rfl, ?_, fun _ => ⟨?_, ?_⟩⟩
    · exact (HBL.out.two _).put rfl _
    · exact Blk.far HST2.out (p := ⟨g3, z, none⟩) (by have := HBG.out; have := HGB.out; show g ≠ g3; omega) _
    · rw [← u64s_set]; exact own_set HO2.out rfl z _
theorem pOne_any (M : List Nat) (last : Int) (s : List UInt8) (g base wd : Nat) (v : Value) (w : World) (h : PRd g w s) (hgb : g < base) (ho : w.ownsRow base 34 1 v M.length (u64s M)) (hM : M.length ≤ 64) (hts : s.length ≤ 281474976710656) :
    Calls Tryz.prog 184 #[.pointer (some ⟨g, 0, none⟩), v, .int .i64 wd, .int .i64 last] w (POne g base wd M last s v w) := by
  cases s with
  | nil => exact pOne_nil M last g base wd v w h
  | cons c t =>
    have htl : t.length ≤ 281474976710656 := by rw [List.length_cons] at hts; omega
    by_cases hr : M.length ≤ c.toNat
    · exact pOne_range M last c t g base wd v w h hgb ho hM hr
    by_cases hs : (c.toNat : Int) ≤ last
    · exact pOne_state M last c t g base wd v w h hgb ho hM hr hs
    obtain ⟨x, hx⟩ : ∃ x, M[c.toNat]? = some x := ⟨M[c.toNat]'(by omega), List.getElem?_eq_getElem (by omega)⟩
    by_cases hx0 : x = 0
    · subst hx0
      obtain ⟨⟨a, k, e0⟩, hrd⟩ : ∃ p, Vary.rd t = p := ⟨_, rfl⟩
      have hk : k ≤ t.length := by have := (Vary.rd_bd t).1; rw [hrd] at this; exact this
      by_cases he : e0 = 0
      · have ha : a < 18446744073709551616 := by have := (Vary.rd_bd t).2.1; rw [hrd] at this; exact this
        by_cases hf : Lib.bitLen a ≤ wd
        · exact pOne_fits M last c t g base wd v w h hgb ho hM hr hs hx htl a k e0 hrd hk he ha hf
        · exact pOne_ok M last c t g base wd v w h hgb ho hM hr hs hx htl a k e0 hrd hk he ha hf
      · exact pOne_vary M last c t g base wd v w h hgb ho hM hr hs hx htl a k e0 hrd hk he
    · exact pOne_form M last c t g base wd v w h hgb ho hM hr hs x hx hx0
end Go.Proofs.YthgnipangcmanaaGreat
end
section
namespace Go.Proofs.YthgnipangcmanaaGreat
open Go.RowKit Hy
def PFr (g many : Nat) (s : List UInt8) (w : World) (e : Ending) (w' : World) : Prop :=
  ∃ (b : Nat) (V : Option Addr) (nv cv : Nat), e = .returned (.tuple #[.agg #[.int .u64 b, .slice V nv cv], .int .i64 ((Pat.fr s many).1 : Nat)]) ∧ Below g w w' ∧
    ((Pat.fr s many).1 = 0 → b = (Pat.fr s many).2.1 ∧ w'.ownsRow (w.heap.size + 1) 34 1 (.slice V nv cv) many (u64s (Pat.fr s many).2.2))
set_option maxHeartbeats 1600000 in
theorem pFrame_vary (s : List UInt8) (many g : Nat) (w : World) (h : PRd g w s) (hs : s.length ≤ 281474976710656) (hm : many ≤ 64) (a k e0 : Nat) (hrd : Vary.rd s = (a, k, e0)) (hk : k ≤ s.length) (ha : a < 18446744073709551616) (he : e0 ≠ 0) :
    Calls Tryz.prog 158 #[.pointer (some ⟨g, 0, none⟩), .int .i64 many] w (PFr g many s w) := by
  have HGL := hid (show g < w.heap.size from Blk.lt h)
  have HP0 := hid (show PRd g (w.alloc (.cells #[.int .u64 0, .slice none 0 0] 148)) s from Blk.alloc h _)
  have HB0 := hid (Blk.new w 148 #[.int .u64 0, .slice none 0 0])
  have HX0 := hid ((Below.refl g w).alloc (Nat.le_of_lt (Blk.lt h)) (.cells #[.int .u64 0, .slice none 0 0] 148))
  have HNE := hid (show w.heap.size ≠ g from (Nat.ne_of_lt (Blk.lt h)).symm)
  have HNU := hid (fun (wx : World) (h : PRd g wx s) => pNumber_any s g wx h hs a k e0 hrd hk)
  have hmI : (many : Int) ≤ 64 := by omega
  have haI : (a : Int) ≤ 18446744073709551615 := by omega
  have h5 : ((e0 : Int) != 0) = true := by rw [bne_iff_ne]; omega
  have h6 : ((e0 : Int) == 0) = false := by rw [beq_eq_false_iff_ne]; omega
  unfold PFr
  rw [Pat.fr_vary hrd he]
  have HE := hid he
  clear h hs hm hrd hk ha he
  go_enter Tryz.func158, Tryz.ntmps158
  go_wp2_with fail
  refine Calls.mono (HNU.out _ HP0.out) ?_
  rintro e w1 ⟨rfl, hst, hb⟩
  have hB1 := HB0.out.but hb HNE.out
  have HB1 := hid hB1
  have HST1 := hid hst
  have HX1 := hid (Below.trans HX0.out (hb.below (Nat.le_refl g) (Nat.le_trans (Nat.le_of_lt HGL.out) HX0.out.size)))
  have HS1 := hid (Nat.lt_of_lt_of_le (show w.heap.size < (w.alloc (.cells #[.int .u64 0, .slice none 0 0] 148)).heap.size by simp) hb.size)
  have hc0 := hB1.cell 0
  have hc1 := hB1.cell 1
  have hf0 := hB1.frozen 0
  clear hst hb hB1
  go_wp2_with (with_reducible (show wpList _ _ _ (⟨none, .store 148 (.tmp 4) (.tmp 18), _, _, _, _⟩ :: _) _ _); go_loud (refine wpList_store_blk rfl 148 (.tmp 4) (.tmp 18) rfl w.heap.size #[.int .u64 (a : Int), .slice none 0 0] rfl rfl 148 _ ((HB1.out.set 0 (.int .u64 (a : Int))).cast rfl) (by kernel_rfl) rfl (by simp [Value.oneCell']) w.heap.size (Nat.le_refl _) ?_; intro w6 hB6 hF6 hL6; have HB6 := hid hB6; have HF6 := hid hF6; have HL6 := hid hL6; clear hB6 hF6 hL6))
  refine bodyPost_ret (results_blk2 rfl _ _ w.heap.size 148 _ _ rfl HB6.out Tryz.underlying148 rfl (by kernel_rfl)) rfl ?_
  exact ⟨a, none, 0, 0, rfl, Below.trans (HX1.out.setCell (p := ⟨w.heap.size, 0, none⟩) (Nat.le_of_lt HGL.out) _) (HL6.out.mono (Nat.le_of_lt HGL.out)), fun h => absurd h HE.out⟩
set_option maxHeartbeats 1600000 in
theorem pFrame_short (s : List UInt8) (many g : Nat) (w : World) (h : PRd g w s) (hs : s.length ≤ 281474976710656) (hm : many ≤ 64) (a k e0 : Nat) (hrd : Vary.rd s = (a, k, e0)) (hk : k ≤ s.length) (ha : a < 18446744073709551616) (he : e0 = 0) (h2 : (s.drop k).length < 2) :
    Calls Tryz.prog 158 #[.pointer (some ⟨g, 0, none⟩), .int .i64 many] w (PFr g many s w) := by
  have HGL := hid (show g < w.heap.size from Blk.lt h)
  have HP0 := hid (show PRd g (w.alloc (.cells #[.int .u64 0, .slice none 0 0] 148)) s from Blk.alloc h _)
  have HB0 := hid (Blk.new w 148 #[.int .u64 0, .slice none 0 0])
  have HX0 := hid ((Below.refl g w).alloc (Nat.le_of_lt (Blk.lt h)) (.cells #[.int .u64 0, .slice none 0 0] 148))
  have HNE := hid (show w.heap.size ≠ g from (Nat.ne_of_lt (Blk.lt h)).symm)
  have HNU := hid (fun (wx : World) (h : PRd g wx s) => pNumber_any s g wx h hs a k e0 hrd hk)
  subst he
  obtain ⟨t, ht⟩ : ∃ t, t = s.drop k := ⟨_, rfl⟩
  have HT := hid ht
  have htl : t.length ≤ 281474976710656 := by rw [ht, List.length_drop]; omega
  have hmI : (many : Int) ≤ 64 := by omega
  have haI : (a : Int) ≤ 18446744073709551615 := by omega
  unfold PFr
  rw [Pat.fr_ok hrd, ← ht]
  rw [← ht] at h2
  rw [Pat.fr1_short h2]
  have HSH := hid h2
  clear h hs hm hrd hk ha htl ht h2
  go_enter Tryz.func158, Tryz.ntmps158
  go_wp2_with fail
  refine Calls.mono (HNU.out _ HP0.out) ?_
  rintro e w1 ⟨rfl, hst, hb⟩
  have hB1 := HB0.out.but hb HNE.out
  have HB1 := hid hB1
  have HST1 := hid hst
  have HX1 := hid (Below.trans HX0.out (hb.below (Nat.le_refl g) (Nat.le_trans (Nat.le_of_lt HGL.out) HX0.out.size)))
  have HS1 := hid (Nat.lt_of_lt_of_le (show w.heap.size < (w.alloc (.cells #[.int .u64 0, .slice none 0 0] 148)).heap.size by simp) hb.size)
  have hc0 := hB1.cell 0
  have hc1 := hB1.cell 1
  have hf0 := hB1.frozen 0
  clear hst hb hB1
  go_wp2_with fail
  have HB2 := hid ((HB1.out.set 0 (.int .u64 (a : Int))).cast (show _ = #[.int .u64 (a : Int), .slice none 0 0] from rfl))
  have HP2 := hid (show PRd g (w1.setCell ⟨w.heap.size, 0, none⟩ (.int .u64 (a : Int))) t by have := HST1.out; unfold PRd at this ⊢; rw [← HT.out] at this; exact this.far (p := ⟨w.heap.size, 0, none⟩) HNE.out.symm _)
  have HX2 := hid (HX1.out.setCell (p := ⟨w.heap.size, 0, none⟩) (Nat.le_of_lt HGL.out) (.int .u64 (a : Int)))
  refine Calls.mono (pBytes_any t 2 g _ HP2.out (by decide)) ?_
  rintro e w2 (⟨_, rfl, hst, hb⟩ | ⟨h1, _⟩)
  rotate_left
  · exact absurd h1 (by have := HSH.out; omega)
  have hB3 := HB2.out.but hb HNE.out
  have HB3 := hid hB3
  have HX3 := hid (Below.trans HX2.out (hb.below (Nat.le_refl g) (Nat.le_trans (Nat.le_of_lt HGL.out) HX2.out.size)))
  have hc0 := hB3.cell 0
  have hc1 := hB3.cell 1
  clear hst hb hB3
  go_wp2_with (with_reducible (show wpList _ _ _ (⟨none, .store 148 (.tmp 4) (.tmp 27), _, _, _, _⟩ :: _) _ _); go_loud (refine wpList_store_blk rfl 148 (.tmp 4) (.tmp 27) rfl w.heap.size #[.int .u64 (a : Int), .slice none 0 0] rfl rfl 148 _ HB3.out (by kernel_rfl) rfl (by simp [Value.oneCell']) w.heap.size (Nat.le_refl _) ?_; intro w6 hB6 hF6 hL6; have HB6 := hid hB6; have HF6 := hid hF6; have HL6 := hid hL6; clear hB6 hF6 hL6))
  refine bodyPost_ret (results_blk2 rfl _ _ w.heap.size 148 _ _ rfl HB6.out Tryz.underlying148 rfl (by kernel_rfl)) rfl ?_
  exact ⟨a, none, 0, 0, rfl, Below.trans HX3.out (HL6.out.mono (Nat.le_of_lt HGL.out)), fun h => by cases h⟩
set_option maxHeartbeats 1600000 in
theorem pFrame_wide (s : List UInt8) (many g : Nat) (w : World) (h : PRd g w s) (hs : s.length ≤ 281474976710656) (hm : many ≤ 64) (a k e0 : Nat) (hrd : Vary.rd s = (a, k, e0)) (hk : k ≤ s.length) (ha : a < 18446744073709551616) (he : e0 = 0) (c0 d0 : UInt8) (u0 : List UInt8) (hcd : s.drop k = c0 :: d0 :: u0) (h64 : 64 < c0.toNat) :
    Calls Tryz.prog 158 #[.pointer (some ⟨g, 0, none⟩), .int .i64 many] w (PFr g many s w) := by
  have HGL := hid (show g < w.heap.size from Blk.lt h)
  have HP0 := hid (show PRd g (w.alloc (.cells #[.int .u64 0, .slice none 0 0] 148)) s from Blk.alloc h _)
  have HB0 := hid (Blk.new w 148 #[.int .u64 0, .slice none 0 0])
  have HX0 := hid ((Below.refl g w).alloc (Nat.le_of_lt (Blk.lt h)) (.cells #[.int .u64 0, .slice none 0 0] 148))
  have HNE := hid (show w.heap.size ≠ g from (Nat.ne_of_lt (Blk.lt h)).symm)
  have HNU := hid (fun (wx : World) (h : PRd g wx s) => pNumber_any s g wx h hs a k e0 hrd hk)
  subst he
  obtain ⟨t, ht⟩ : ∃ t, t = s.drop k := ⟨_, rfl⟩
  have HT := hid ht
  have htl : t.length ≤ 281474976710656 := by rw [ht, List.length_drop]; omega
  have hmI : (many : Int) ≤ 64 := by omega
  have haI : (a : Int) ≤ 18446744073709551615 := by omega
  unfold PFr
  rw [Pat.fr_ok hrd, ← ht]
  obtain ⟨c, d, u, rfl⟩ : ∃ c d u, t = c :: d :: u := ⟨c0, d0, u0, by rw [ht, hcd]⟩
  rw [Pat.fr1_cons]
  have hul : u.length ≤ 281474976710656 := by rw [List.length_cons, List.length_cons] at htl; omega
  have HSH2 := hid (show 2 ≤ (c :: d :: u).length by simp)
  have hI0 := fun wx : World => run_ix0 (P := Tryz.prog) (w := wx) Tryz.underlying9 ⟨[c, d].toArray⟩ .i64 c [d] rfl
  have hI1 := fun wx : World => run_ix (P := Tryz.prog) (w := wx) Tryz.underlying9 ⟨[c, d].toArray⟩ .i64 1 d rfl
  obtain ⟨XC, hXC⟩ : ∃ S : ByteArray, S = ⟨[c, d].toArray⟩ := ⟨_, rfl⟩
  rw [← hXC] at hI0 hI1
  have HXC := hid hXC
  have hcI : (c.toNat : Int) ≤ 255 := by have := c.toNat_lt; omega
  have hdI : (d.toNat : Int) ≤ 255 := by have := d.toNat_lt; omega
  have i11 : ((1 : Nat) : Int) = 1 := rfl
  rw [i11] at hI1
  obtain ⟨rfl, rfl, rfl⟩ : c = c0 ∧ d = d0 ∧ u = u0 := by rw [hcd] at ht; injection ht with h1 h2; injection h2 with h2 h3; exact ⟨h1, h2, h3⟩
  rw [Pat.fr2_wide h64]
  have hcw : 64 < (c.toNat : Int) := by omega
  clear h hs hm hrd hk ha htl ht hcd hXC h64 hul
  generalize c.toNat = wd at *
  generalize d.toNat = q at *
  go_enter Tryz.func158, Tryz.ntmps158
  go_wp2_with fail
  refine Calls.mono (HNU.out _ HP0.out) ?_
  rintro e w1 ⟨rfl, hst, hb⟩
  have hB1 := HB0.out.but hb HNE.out
  have HB1 := hid hB1
  have HST1 := hid hst
  have HX1 := hid (Below.trans HX0.out (hb.below (Nat.le_refl g) (Nat.le_trans (Nat.le_of_lt HGL.out) HX0.out.size)))
  have HS1 := hid (Nat.lt_of_lt_of_le (show w.heap.size < (w.alloc (.cells #[.int .u64 0, .slice none 0 0] 148)).heap.size by simp) hb.size)
  have hc0 := hB1.cell 0
  have hc1 := hB1.cell 1
  have hf0 := hB1.frozen 0
  clear hst hb hB1
  go_wp2_with fail
  have HB2 := hid ((HB1.out.set 0 (.int .u64 (a : Int))).cast (show _ = #[.int .u64 (a : Int), .slice none 0 0] from rfl))
  have HP2 := hid (show PRd g (w1.setCell ⟨w.heap.size, 0, none⟩ (.int .u64 (a : Int))) (c :: d :: u) by have := HST1.out; unfold PRd at this ⊢; rw [← HT.out] at this; exact this.far (p := ⟨w.heap.size, 0, none⟩) HNE.out.symm _)
  have HX2 := hid (HX1.out.setCell (p := ⟨w.heap.size, 0, none⟩) (Nat.le_of_lt HGL.out) (.int .u64 (a : Int)))
  refine Calls.mono (pBytes_any (c :: d :: u) 2 g _ HP2.out (by decide)) ?_
  rw [show (⟨((c :: d :: u).take 2).toArray⟩ : ByteArray) = XC from HXC.out.symm, show (c :: d :: u).drop 2 = u from rfl]
  rintro e w2 (⟨h1, _⟩ | ⟨_, rfl, hst, hb⟩)
  · exact absurd h1 (by have := HSH2.out; omega)
  have hB3 := HB2.out.but hb HNE.out
  have HB3 := hid hB3
  have HX3 := hid (Below.trans HX2.out (hb.below (Nat.le_refl g) (Nat.le_trans (Nat.le_of_lt HGL.out) HX2.out.size)))
  have HST3 := hid hst
  have HS3 := hid (show w.heap.size < w2.heap.size from hB3.lt)
  have hc0 := hB3.cell 0
  have hc1 := hB3.cell 1
  have hf1 := hB3.frozen 1
  clear hst hb hB3
  go_wp2_with (with_reducible (show wpList _ _ _ (⟨none, .store 148 (.tmp 4) (.tmp 34), _, _, _, _⟩ :: _) _ _); go_loud (refine wpList_store_blk rfl 148 (.tmp 4) (.tmp 34) rfl w.heap.size #[.int .u64 (a : Int), .slice none 0 0] rfl rfl 148 _ HB3.out (by kernel_rfl) rfl (by simp [Value.oneCell']) w.heap.size (Nat.le_refl _) ?_; intro w6 hB6 hF6 hL6; have HB6 := hid hB6; have HF6 := hid hF6; have HL6 := hid hL6; clear hB6 hF6 hL6))
  refine bodyPost_ret (results_blk2 rfl _ _ w.heap.size 148 _ _ rfl HB6.out Tryz.underlying148 rfl (by kernel_rfl)) rfl ?_
  exact ⟨a, none, 0, 0, rfl, Below.trans HX3.out (HL6.out.mono (Nat.le_of_lt HGL.out)), fun h => by cases h⟩
set_option maxHeartbeats 1600000 in
theorem pFrame_short2 (s : List UInt8) (many g : Nat) (w : World) (h : PRd g w s) (hs : s.length ≤ 281474976710656) (hm : many ≤ 64) (a k e0 : Nat) (hrd : Vary.rd s = (a, k, e0)) (hk : k ≤ s.length) (ha : a < 18446744073709551616) (he : e0 = 0) (c0 d0 : UInt8) (u0 : List UInt8) (hcd : s.drop k = c0 :: d0 :: u0) (h64 : ¬ 64 < c0.toNat) (h5 : u0.length < Bits.size many c0.toNat) :
    Calls Tryz.prog 158 #[.pointer (some ⟨g, 0, none⟩), .int .i64 many] w (PFr g many s w) := by
  have HGL := hid (show g < w.heap.size from Blk.lt h)
  have HP0 := hid (show PRd g (w.alloc (.cells #[.int .u64 0, .slice none 0 0] 148)) s from Blk.alloc h _)
  have HB0 := hid (Blk.new w 148 #[.int .u64 0, .slice none 0 0])
  have HX0 := hid ((Below.refl g w).alloc (Nat.le_of_lt (Blk.lt h)) (.cells #[.int .u64 0, .slice none 0 0] 148))
  have HNE := hid (show w.heap.size ≠ g from (Nat.ne_of_lt (Blk.lt h)).symm)
  have HNU := hid (fun (wx : World) (h : PRd g wx s) => pNumber_any s g wx h hs a k e0 hrd hk)
  subst he
  obtain ⟨t, ht⟩ : ∃ t, t = s.drop k := ⟨_, rfl⟩
  have HT := hid ht
  have htl : t.length ≤ 281474976710656 := by rw [ht, List.length_drop]; omega
  have hmI : (many : Int) ≤ 64 := by omega
  have haI : (a : Int) ≤ 18446744073709551615 := by omega
  unfold PFr
  rw [Pat.fr_ok hrd, ← ht]
  obtain ⟨c, d, u, rfl⟩ : ∃ c d u, t = c :: d :: u := ⟨c0, d0, u0, by rw [ht, hcd]⟩
  rw [Pat.fr1_cons]
  have hul : u.length ≤ 281474976710656 := by rw [List.length_cons, List.length_cons] at htl; omega
  have HSH2 := hid (show 2 ≤ (c :: d :: u).length by simp)
  have hI0 := fun wx : World => run_ix0 (P := Tryz.prog) (w := wx) Tryz.underlying9 ⟨[c, d].toArray⟩ .i64 c [d] rfl
  have hI1 := fun wx : World => run_ix (P := Tryz.prog) (w := wx) Tryz.underlying9 ⟨[c, d].toArray⟩ .i64 1 d rfl
  obtain ⟨XC, hXC⟩ : ∃ S : ByteArray, S = ⟨[c, d].toArray⟩ := ⟨_, rfl⟩
  rw [← hXC] at hI0 hI1
  have HXC := hid hXC
  have hcI : (c.toNat : Int) ≤ 255 := by have := c.toNat_lt; omega
  have hdI : (d.toNat : Int) ≤ 255 := by have := d.toNat_lt; omega
  have i11 : ((1 : Nat) : Int) = 1 := rfl
  rw [i11] at hI1
  obtain ⟨rfl, rfl, rfl⟩ : c = c0 ∧ d = d0 ∧ u = u0 := by rw [hcd] at ht; injection ht with h1 h2; injection h2 with h2 h3; exact ⟨h1, h2, h3⟩
  have hcw : (c.toNat : Int) ≤ 64 := by omega
  have hmul : (many : Int) * (c.toNat : Int) = ((many * c.toNat : Nat) : Int) := by simp
  have hmb : many * c.toNat ≤ 4096 := Nat.mul_le_mul hm (show c.toNat ≤ 64 by omega)
  have hsz : (((many * c.toNat : Nat) : Int) + 7) / 8 = (Bits.size many c.toNat : Nat) := by unfold Bits.size; omega
  have hszb : Bits.size many c.toNat ≤ 512 := by unfold Bits.size; omega
  have hmbI : ((many * c.toNat : Nat) : Int) ≤ 4096 := by omega
  have hszI : ((Bits.size many c.toNat : Nat) : Int) ≤ 512 := by omega
  have HSZ := hid hszb
  rw [Pat.fr2_short h64 h5]
  have HSH := hid h5
  clear h hs hm hrd hk ha htl ht hcd hXC h64 hul h5 hmb hszb
  generalize many * c.toNat = mw at *
  generalize Bits.size many c.toNat = sz at *
  generalize c.toNat = wd at *
  generalize d.toNat = q at *
  go_enter Tryz.func158, Tryz.ntmps158
  go_wp2_with fail
  refine Calls.mono (HNU.out _ HP0.out) ?_
  rintro e w1 ⟨rfl, hst, hb⟩
  have hB1 := HB0.out.but hb HNE.out
  have HB1 := hid hB1
  have HST1 := hid hst
  have HX1 := hid (Below.trans HX0.out (hb.below (Nat.le_refl g) (Nat.le_trans (Nat.le_of_lt HGL.out) HX0.out.size)))
  have HS1 := hid (Nat.lt_of_lt_of_le (show w.heap.size < (w.alloc (.cells #[.int .u64 0, .slice none 0 0] 148)).heap.size by simp) hb.size)
  have hc0 := hB1.cell 0
  have hc1 := hB1.cell 1
  have hf0 := hB1.frozen 0
  clear hst hb hB1
  go_wp2_with fail
  have HB2 := hid ((HB1.out.set 0 (.int .u64 (a : Int))).cast (show _ = #[.int .u64 (a : Int), .slice none 0 0] from rfl))
  have HP2 := hid (show PRd g (w1.setCell ⟨w.heap.size, 0, none⟩ (.int .u64 (a : Int))) (c :: d :: u) by have := HST1.out; unfold PRd at this ⊢; rw [← HT.out] at this; exact this.far (p := ⟨w.heap.size, 0, none⟩) HNE.out.symm _)
  have HX2 := hid (HX1.out.setCell (p := ⟨w.heap.size, 0, none⟩) (Nat.le_of_lt HGL.out) (.int .u64 (a : Int)))
  refine Calls.mono (pBytes_any (c :: d :: u) 2 g _ HP2.out (by decide)) ?_
  rw [show (⟨((c :: d :: u).take 2).toArray⟩ : ByteArray) = XC from HXC.out.symm, show (c :: d :: u).drop 2 = u from rfl]
  rintro e w2 (⟨h1, _⟩ | ⟨_, rfl, hst, hb⟩)
  · exact absurd h1 (by have := HSH2.out; omega)
  have hB3 := HB2.out.but hb HNE.out
  have HB3 := hid hB3
  have HX3 := hid (Below.trans HX2.out (hb.below (Nat.le_refl g) (Nat.le_trans (Nat.le_of_lt HGL.out) HX2.out.size)))
  have HST3 := hid hst
  have HS3 := hid (show w.heap.size < w2.heap.size from hB3.lt)
  have hc0 := hB3.cell 0
  have hc1 := hB3.cell 1
  have hf1 := hB3.frozen 1
  clear hst hb hB3
  go_wp2_with fail
  refine Calls.mono (pBytes_any u sz g _ HST3.out (by have := HSZ.out; omega)) ?_
  rintro e w3 (⟨_, rfl, hst, hb⟩ | ⟨h1, _⟩)
  rotate_left
  · exact absurd h1 (by have := HSH.out; omega)
  have hB4 := HB3.out.but hb HNE.out
  have HB4 := hid hB4
  have HX4 := hid (Below.trans HX3.out (hb.below (Nat.le_refl g) (Nat.le_trans (Nat.le_of_lt HGL.out) HX3.out.size)))
  have hc0 := hB4.cell 0
  have hc1 := hB4.cell 1
  clear hst hb hB4
  go_wp2_with (with_reducible (show wpList _ _ _ (⟨none, .store 148 (.tmp 4) (.tmp 47), _, _, _, _⟩ :: _) _ _); go_loud (refine wpList_store_blk rfl 148 (.tmp 4) (.tmp 47) rfl w.heap.size #[.int .u64 (a : Int), .slice none 0 0] rfl rfl 148 _ HB4.out (by kernel_rfl) rfl (by simp [Value.oneCell']) w.heap.size (Nat.le_refl _) ?_; intro w6 hB6 hF6 hL6; have HB6 := hid hB6; have HF6 := hid hF6; have HL6 := hid hL6; clear hB6 hF6 hL6))
  refine bodyPost_ret (results_blk2 rfl _ _ w.heap.size 148 _ _ rfl HB6.out Tryz.underlying148 rfl (by kernel_rfl)) rfl ?_
  exact ⟨a, none, 0, 0, rfl, Below.trans HX4.out (HL6.out.mono (Nat.le_of_lt HGL.out)), fun h => by cases h⟩
set_option maxHeartbeats 1600000 in
theorem pFrame_bad (s : List UInt8) (many g : Nat) (w : World) (h : PRd g w s) (hs : s.length ≤ 281474976710656) (hm : many ≤ 64) (a k e0 : Nat) (hrd : Vary.rd s = (a, k, e0)) (hk : k ≤ s.length) (ha : a < 18446744073709551616) (he : e0 = 0) (c0 d0 : UInt8) (u0 : List UInt8) (hcd : s.drop k = c0 :: d0 :: u0) (h64 : ¬ 64 < c0.toNat) (h5 : ¬ u0.length < Bits.size many c0.toNat) (h6 : Bits.chk (u0.take (Bits.size many c0.toNat)) many c0.toNat ≠ 0) :
    Calls Tryz.prog 158 #[.pointer (some ⟨g, 0, none⟩), .int .i64 many] w (PFr g many s w) := by
  have HGL := hid (show g < w.heap.size from Blk.lt h)
  have HP0 := hid (show PRd g (w.alloc (.cells #[.int .u64 0, .slice none 0 0] 148)) s from Blk.alloc h _)
  have HB0 := hid (Blk.new w 148 #[.int .u64 0, .slice none 0 0])
  have HX0 := hid ((Below.refl g w).alloc (Nat.le_of_lt (Blk.lt h)) (.cells #[.int .u64 0, .slice none 0 0] 148))
  have HNE := hid (show w.heap.size ≠ g from (Nat.ne_of_lt (Blk.lt h)).symm)
  have HNU := hid (fun (wx : World) (h : PRd g wx s) => pNumber_any s g wx h hs a k e0 hrd hk)
  subst he
  obtain ⟨t, ht⟩ : ∃ t, t = s.drop k := ⟨_, rfl⟩
  have HT := hid ht
  have htl : t.length ≤ 281474976710656 := by rw [ht, List.length_drop]; omega
  have hmI : (many : Int) ≤ 64 := by omega
  have haI : (a : Int) ≤ 18446744073709551615 := by omega
  unfold PFr
  rw [Pat.fr_ok hrd, ← ht]
  obtain ⟨c, d, u, rfl⟩ : ∃ c d u, t = c :: d :: u := ⟨c0, d0, u0, by rw [ht, hcd]⟩
  rw [Pat.fr1_cons]
  have hul : u.length ≤ 281474976710656 := by rw [List.length_cons, List.length_cons] at htl; omega
  have HSH2 := hid (show 2 ≤ (c :: d :: u).length by simp)
  have hI0 := fun wx : World => run_ix0 (P := Tryz.prog) (w := wx) Tryz.underlying9 ⟨[c, d].toArray⟩ .i64 c [d] rfl
  have hI1 := fun wx : World => run_ix (P := Tryz.prog) (w := wx) Tryz.underlying9 ⟨[c, d].toArray⟩ .i64 1 d rfl
  obtain ⟨XC, hXC⟩ : ∃ S : ByteArray, S = ⟨[c, d].toArray⟩ := ⟨_, rfl⟩
  rw [← hXC] at hI0 hI1
  have HXC := hid hXC
  have hcI : (c.toNat : Int) ≤ 255 := by have := c.toNat_lt; omega
  have hdI : (d.toNat : Int) ≤ 255 := by have := d.toNat_lt; omega
  have i11 : ((1 : Nat) : Int) = 1 := rfl
  rw [i11] at hI1
  obtain ⟨rfl, rfl, rfl⟩ : c = c0 ∧ d = d0 ∧ u = u0 := by rw [hcd] at ht; injection ht with h1 h2; injection h2 with h2 h3; exact ⟨h1, h2, h3⟩
  have hcw : (c.toNat : Int) ≤ 64 := by omega
  have hmul : (many : Int) * (c.toNat : Int) = ((many * c.toNat : Nat) : Int) := by simp
  have hmb : many * c.toNat ≤ 4096 := Nat.mul_le_mul hm (show c.toNat ≤ 64 by omega)
  have hsz : (((many * c.toNat : Nat) : Int) + 7) / 8 = (Bits.size many c.toNat : Nat) := by unfold Bits.size; omega
  have hszb : Bits.size many c.toNat ≤ 512 := by unfold Bits.size; omega
  have hmbI : ((many * c.toNat : Nat) : Int) ≤ 4096 := by omega
  have hszI : ((Bits.size many c.toNat : Nat) : Int) ≤ 512 := by omega
  have HSZ := hid hszb
  have HU := hid (fun wx => unpack_own ⟨(u.take (Bits.size many c.toNat)).toArray⟩ (many : Int) (c.toNat : Int) wx)
  rw [show (⟨(u.take (Bits.size many c.toNat)).toArray⟩ : ByteArray).data.toList = u.take (Bits.size many c.toNat) by simp] at HU
  have HSH3 := hid (show Bits.size many c.toNat ≤ u.length by omega)
  rw [Pat.fr2_bad h64 h5 h6]
  have hE := Bits.chk_cases (u.take (Bits.size many c.toNat)) many c.toNat
  generalize Bits.chk (u.take (Bits.size many c.toNat)) many c.toNat = E at *
  have hEI : (E : Int) ≤ 3 := by omega
  have HE := hid h6
  have h7 : ((E : Int) != 0) = true := by rw [bne_iff_ne]; omega
  have h8 : ((E : Int) == 0) = false := by rw [beq_eq_false_iff_ne]; omega
  generalize Bits.up (u.take (Bits.size many c.toNat)) many c.toNat = U at *
  clear h hs hm hrd hk ha htl ht hcd hXC h64 hul h5 hmb hszb h6 hE
  generalize many * c.toNat = mw at *
  generalize Bits.size many c.toNat = sz at *
  generalize c.toNat = wd at *
  generalize d.toNat = q at *
  go_enter Tryz.func158, Tryz.ntmps158
  go_wp2_with fail
  refine Calls.mono (HNU.out _ HP0.out) ?_
  rintro e w1 ⟨rfl, hst, hb⟩
  have hB1 := HB0.out.but hb HNE.out
  have HB1 := hid hB1
  have HST1 := hid hst
  have HX1 := hid (Below.trans HX0.out (hb.below (Nat.le_refl g) (Nat.le_trans (Nat.le_of_lt HGL.out) HX0.out.size)))
  have HS1 := hid (Nat.lt_of_lt_of_le (show w.heap.size < (w.alloc (.cells #[.int .u64 0, .slice none 0 0] 148)).heap.size by simp) hb.size)
  have hc0 := hB1.cell 0
  have hc1 := hB1.cell 1
  have hf0 := hB1.frozen 0
  clear hst hb hB1
  go_wp2_with fail
  have HB2 := hid ((HB1.out.set 0 (.int .u64 (a : Int))).cast (show _ = #[.int .u64 (a : Int), .slice none 0 0] from rfl))
  have HP2 := hid (show PRd g (w1.setCell ⟨w.heap.size, 0, none⟩ (.int .u64 (a : Int))) (c :: d :: u) by have := HST1.out; unfold PRd at this ⊢; rw [← HT.out] at this; exact this.far (p := ⟨w.heap.size, 0, none⟩) HNE.out.symm _)
  have HX2 := hid (HX1.out.setCell (p := ⟨w.heap.size, 0, none⟩) (Nat.le_of_lt HGL.out) (.int .u64 (a : Int)))
  refine Calls.mono (pBytes_any (c :: d :: u) 2 g _ HP2.out (by decide)) ?_
  rw [show (⟨((c :: d :: u).take 2).toArray⟩ : ByteArray) = XC from HXC.out.symm, show (c :: d :: u).drop 2 = u from rfl]
  rintro e w2 (⟨h1, _⟩ | ⟨_, rfl, hst, hb⟩)
  · exact absurd h1 (by have := HSH2.out; omega)
  have hB3 := HB2.out.but hb HNE.out
  have HB3 := hid hB3
  have HX3 := hid (Below.trans HX2.out (hb.below (Nat.le_refl g) (Nat.le_trans (Nat.le_of_lt HGL.out) HX2.out.size)))
  have HST3 := hid hst
  have HS3 := hid (show w.heap.size < w2.heap.size from hB3.lt)
  have hc0 := hB3.cell 0
  have hc1 := hB3.cell 1
  have hf1 := hB3.frozen 1
  clear hst hb hB3
  go_wp2_with fail
  refine Calls.mono (pBytes_any u sz g _ HST3.out (by have := HSZ.out; omega)) ?_
  rintro e w3 (⟨h1, _⟩ | ⟨_, rfl, hst, hb⟩)
  · exact absurd h1 (by have := HSH3.out; omega)
  have hB4 := HB3.out.but hb HNE.out
  have HB4 := hid hB4
  have HX4 := hid (Below.trans HX3.out (hb.below (Nat.le_refl g) (Nat.le_trans (Nat.le_of_lt HGL.out) HX3.out.size)))
  have HST4 := hid hst
  have HS4 := hid (show w.heap.size < w3.heap.size from hB4.lt)
  have hc0 := hB4.cell 0
  have hc1 := hB4.cell 1
  have hf1 := hB4.frozen 1
  clear hst hb hB4
  go_wp2_with fail
  refine Calls.mono (HU.out _) ?_
  rintro e w4 ⟨v, rfl, hown, hx⟩
  have hB5 := HB4.out.keep hx
  have HB5 := hid hB5
  have HST5 := hid (show PRd g w4 (u.drop sz) from Blk.keep HST4.out hx)
  have HX5 := hid (HX4.out.trans (hx.mono (Nat.le_trans (Nat.le_of_lt HGL.out) HX4.out.size)))
  have HOW := hid hown
  have hc0 := hB5.cell 0
  have hc1 := hB5.cell 1
  have hf1 := hB5.frozen 1
  clear hown hx hB5
  obtain ⟨V, cv, rfl, _⟩ := Rd.owned HOW.out
  go_wp2_with (with_reducible (show wpList _ _ _ (⟨none, .store 148 (.tmp 4) (.tmp 59), _, _, _, _⟩ :: _) _ _); go_loud (refine wpList_store_blk rfl 148 (.tmp 4) (.tmp 59) rfl w.heap.size #[.int .u64 (a : Int), .slice V U.length cv] rfl rfl 148 _ ((HB5.out.set 1 _).cast rfl) (by kernel_rfl) rfl (by simp [Value.oneCell']) w.heap.size (Nat.le_refl _) ?_; intro w6 hB6 hF6 hL6; have HB6 := hid hB6; have HF6 := hid hF6; have HL6 := hid hL6; clear hB6 hF6 hL6))
  refine bodyPost_ret (results_blk2 rfl _ _ w.heap.size 148 _ _ rfl HB6.out Tryz.underlying148 rfl (by kernel_rfl)) rfl ?_
  exact ⟨a, _, _, _, rfl, Below.trans (HX5.out.setCell (p := ⟨w.heap.size, 1, none⟩) (Nat.le_of_lt HGL.out) _) (HL6.out.mono (Nat.le_of_lt HGL.out)), fun h => absurd h HE.out⟩
set_option maxRecDepth 100000 in
set_option maxHeartbeats 3200000 in
theorem pFrame_loop (s : List UInt8) (many g : Nat) (w : World) (h : PRd g w s) (hs : s.length ≤ 281474976710656) (hm : many ≤ 64) (a k e0 : Nat) (hrd : Vary.rd s = (a, k, e0)) (hk : k ≤ s.length) (ha : a < 18446744073709551616) (he : e0 = 0) (c0 d0 : UInt8) (u0 : List UInt8) (hcd : s.drop k = c0 :: d0 :: u0) (h64 : ¬ 64 < c0.toNat) (h5 : ¬ u0.length < Bits.size many c0.toNat) (h6 : Bits.chk (u0.take (Bits.size many c0.toNat)) many c0.toNat = 0) :
    Calls Tryz.prog 158 #[.pointer (some ⟨g, 0, none⟩), .int .i64 many] w (PFr g many s w) := by
  have HGL := hid (show g < w.heap.size from Blk.lt h)
  have HP0 := hid (show PRd g (w.alloc (.cells #[.int .u64 0, .slice none 0 0] 148)) s from Blk.alloc h _)
  have HB0 := hid (Blk.new w 148 #[.int .u64 0, .slice none 0 0])
  have HX0 := hid ((Below.refl g w).alloc (Nat.le_of_lt (Blk.lt h)) (.cells #[.int .u64 0, .slice none 0 0] 148))
  have HNE := hid (show w.heap.size ≠ g from (Nat.ne_of_lt (Blk.lt h)).symm)
  have HNU := hid (fun (wx : World) (h : PRd g wx s) => pNumber_any s g wx h hs a k e0 hrd hk)
  subst he
  obtain ⟨t, ht⟩ : ∃ t, t = s.drop k := ⟨_, rfl⟩
  have HT := hid ht
  have htl : t.length ≤ 281474976710656 := by rw [ht, List.length_drop]; omega
  have hmI : (many : Int) ≤ 64 := by omega
  have haI : (a : Int) ≤ 18446744073709551615 := by omega
  unfold PFr
  rw [Pat.fr_ok hrd, ← ht]
  obtain ⟨c, d, u, rfl⟩ : ∃ c d u, t = c :: d :: u := ⟨c0, d0, u0, by rw [ht, hcd]⟩
  rw [Pat.fr1_cons]
  have hul : u.length ≤ 281474976710656 := by rw [List.length_cons, List.length_cons] at htl; omega
  have HSH2 := hid (show 2 ≤ (c :: d :: u).length by simp)
  have hI0 := fun wx : World => run_ix0 (P := Tryz.prog) (w := wx) Tryz.underlying9 ⟨[c, d].toArray⟩ .i64 c [d] rfl
  have hI1 := fun wx : World => run_ix (P := Tryz.prog) (w := wx) Tryz.underlying9 ⟨[c, d].toArray⟩ .i64 1 d rfl
  obtain ⟨XC, hXC⟩ : ∃ S : ByteArray, S = ⟨[c, d].toArray⟩ := ⟨_, rfl⟩
  rw [← hXC] at hI0 hI1
  have HXC := hid hXC
  have hcI : (c.toNat : Int) ≤ 255 := by have := c.toNat_lt; omega
  have hdI : (d.toNat : Int) ≤ 255 := by have := d.toNat_lt; omega
  have i11 : ((1 : Nat) : Int) = 1 := rfl
  rw [i11] at hI1
  obtain ⟨rfl, rfl, rfl⟩ : c = c0 ∧ d = d0 ∧ u = u0 := by rw [hcd] at ht; injection ht with h1 h2; injection h2 with h2 h3; exact ⟨h1, h2, h3⟩
  have hcw : (c.toNat : Int) ≤ 64 := by omega
  have hmul : (many : Int) * (c.toNat : Int) = ((many * c.toNat : Nat) : Int) := by simp
  have hmb : many * c.toNat ≤ 4096 := Nat.mul_le_mul hm (show c.toNat ≤ 64 by omega)
  have hsz : (((many * c.toNat : Nat) : Int) + 7) / 8 = (Bits.size many c.toNat : Nat) := by unfold Bits.size; omega
  have hszb : Bits.size many c.toNat ≤ 512 := by unfold Bits.size; omega
  have hmbI : ((many * c.toNat : Nat) : Int) ≤ 4096 := by omega
  have hszI : ((Bits.size many c.toNat : Nat) : Int) ≤ 512 := by omega
  have HSZ := hid hszb
  have HU := hid (fun wx => unpack_own ⟨(u.take (Bits.size many c.toNat)).toArray⟩ (many : Int) (c.toNat : Int) wx)
  rw [show (⟨(u.take (Bits.size many c.toNat)).toArray⟩ : ByteArray).data.toList = u.take (Bits.size many c.toNat) by simp] at HU
  have HSH3 := hid (show Bits.size many c.toNat ≤ u.length by omega)
  rw [Pat.fr2_ok h64 h5 h6]
  have HUP := hid (Bits.up_ok _ _ _ h6)
  simp only [Int.toNat_natCast] at HUP
  rw [h6, HUP.out] at HU
  have HUL := hid (Bits.unp_len (u.take (Bits.size many c.toNat)) many c.toNat)
  generalize Bits.unp (u.take (Bits.size many c.toNat)) many c.toNat = U at *
  unfold NumsOwn at HU
  rw [HUL.out] at HU
  have HUD := hid hul
  have HM := hid hm
  clear h hs hm hrd hk ha htl ht hcd hXC h64 hul h5 hmb hszb h6 HUP
  generalize many * c.toNat = mw at *
  generalize Bits.size many c.toNat = sz at *
  generalize c.toNat = wd at *
  generalize d.toNat = q at *
  go_enter Tryz.func158, Tryz.ntmps158
  go_wp2_with fail
  refine Calls.mono (HNU.out _ HP0.out) ?_
  rintro e w1 ⟨rfl, hst, hb⟩
  have hB1 := HB0.out.but hb HNE.out
  have HB1 := hid hB1
  have HST1 := hid hst
  have HX1 := hid (Below.trans HX0.out (hb.below (Nat.le_refl g) (Nat.le_trans (Nat.le_of_lt HGL.out) HX0.out.size)))
  have HS1 := hid (Nat.lt_of_lt_of_le (show w.heap.size < (w.alloc (.cells #[.int .u64 0, .slice none 0 0] 148)).heap.size by simp) hb.size)
  have hc0 := hB1.cell 0
  have hc1 := hB1.cell 1
  have hf0 := hB1.frozen 0
  clear hst hb hB1
  go_wp2_with fail
  have HB2 := hid ((HB1.out.set 0 (.int .u64 (a : Int))).cast (show _ = #[.int .u64 (a : Int), .slice none 0 0] from rfl))
  have HP2 := hid (show PRd g (w1.setCell ⟨w.heap.size, 0, none⟩ (.int .u64 (a : Int))) (c :: d :: u) by have := HST1.out; unfold PRd at this ⊢; rw [← HT.out] at this; exact this.far (p := ⟨w.heap.size, 0, none⟩) HNE.out.symm _)
  have HX2 := hid (HX1.out.setCell (p := ⟨w.heap.size, 0, none⟩) (Nat.le_of_lt HGL.out) (.int .u64 (a : Int)))
  refine Calls.mono (pBytes_any (c :: d :: u) 2 g _ HP2.out (by decide)) ?_
  rw [show (⟨((c :: d :: u).take 2).toArray⟩ : ByteArray) = XC from HXC.out.symm, show (c :: d :: u).drop 2 = u from rfl]
  rintro e w2 (⟨h1, _⟩ | ⟨_, rfl, hst, hb⟩)
  · exact absurd h1 (by have := HSH2.out; omega)
  have hB3 := HB2.out.but hb HNE.out
  have HB3 := hid hB3
  have HX3 := hid (Below.trans HX2.out (hb.below (Nat.le_refl g) (Nat.le_trans (Nat.le_of_lt HGL.out) HX2.out.size)))
  have HST3 := hid hst
  have HS3 := hid (show w.heap.size < w2.heap.size from hB3.lt)
  have hc0 := hB3.cell 0
  have hc1 := hB3.cell 1
  have hf1 := hB3.frozen 1
  clear hst hb hB3
  go_wp2_with fail
  refine Calls.mono (pBytes_any u sz g _ HST3.out (by have := HSZ.out; omega)) ?_
  rintro e w3 (⟨h1, _⟩ | ⟨_, rfl, hst, hb⟩)
  · exact absurd h1 (by have := HSH3.out; omega)
  have hB4 := HB3.out.but hb HNE.out
  have HB4 := hid hB4
  have HX4 := hid (Below.trans HX3.out (hb.below (Nat.le_refl g) (Nat.le_trans (Nat.le_of_lt HGL.out) HX3.out.size)))
  have HST4 := hid hst
  have HS4 := hid (show w.heap.size < w3.heap.size from hB4.lt)
  have hc0 := hB4.cell 0
  have hc1 := hB4.cell 1
  have hf1 := hB4.frozen 1
  clear hst hb hB4
  go_wp2_with fail
  refine Calls.mono (HU.out _) ?_
  rintro e w4 ⟨v, rfl, hown, hx⟩
  have hB5 := HB4.out.keep hx
  have HB5 := hid hB5
  have HST5 := hid (show PRd g w4 (u.drop sz) from Blk.keep HST4.out hx)
  have HX5 := hid (HX4.out.trans (hx.mono (Nat.le_trans (Nat.le_of_lt HGL.out) HX4.out.size)))
  have HOW := hid hown
  have hc0 := hB5.cell 0
  have hc1 := hB5.cell 1
  have hf1 := hB5.frozen 1
  clear hown hx hB5
  obtain ⟨V, cv, rfl, _⟩ := Rd.owned HOW.out
  have HOW2 := hid (own_lower HOW.out (show w.heap.size + 1 ≤ w3.heap.size from HS4.out))
  go_wp2
  go_loopw [5, 9, 63] (fun e9 l9 cq wr => ∃ (j : Nat) (last : Int) (M : List Nat) (x : List UInt8), j ≤ q ∧ cq = .int .u8 j ∧ l9 = .int .i64 last ∧ e9 = .int .i64 0 ∧ -1 ≤ last ∧ last ≤ 255 ∧ Hid (Pat.onS wd q U (-1) (u.drop sz) = Pat.onS wd (q - j) M last x) ∧ Hid (M.length = many) ∧ Hid (x.length ≤ 281474976710656) ∧ Hid (PRd g wr x) ∧ Blk wr w.heap.size 148 #[.int .u64 (a : Int), .slice V many cv] ∧ Hid (wr.ownsRow (w.heap.size + 1) 34 1 (.slice V many cv) many (u64s M)) ∧ Hid (Below g w wr)) (fun _ _ cq _ => q - (intOf cq).toNat)
  case atStart => exact ⟨0, -1, U, u.drop sz, Nat.zero_le _, rfl, rfl, rfl, by omega, by omega, hid rfl, HUL, hid (by have := HUD.out; rw [List.length_drop]; omega), hid (Blk.far HST5.out (p := ⟨w.heap.size, 1, none⟩) HNE.out.symm _), (HB5.out.set 1 _).cast rfl, hid (own_but HOW2.out ((but_refl _ _).put ⟨w.heap.size, 1, none⟩ (.inl rfl) _) (Nat.lt_succ_self _)), hid (HX5.out.setCell (p := ⟨w.heap.size, 1, none⟩) (Nat.le_of_lt HGL.out) _)⟩
  case round =>
    obtain ⟨j, last, M, x, hj, rfl, rfl, rfl, hl0, hl1, HON, HML, HXL, HPX, B, HO, HX⟩ := hrel
    have HB := hid B
    have hc0 := B.cell 0
    have hc1 := B.cell 1
    have hqI : (q : Int) ≤ 255 := hdI
    clear B
    by_cases hlt : j < q
    · have hjI : (j : Int) < (q : Int) := by omega
      obtain ⟨r, hr⟩ : ∃ r, q - j = r + 1 := ⟨q - j - 1, by omega⟩
      have HON2 := hid (show Pat.onS wd (r + 1) M last x = _ from rfl)
      rw [hr] at HON
      have HR := hid (show q - (j + 1) = r by omega)
      have HVB := hid (fun b (e : (Value.slice V many cv).ownBlock = some b) => (HO.out.lt b e).1)
      have HC1 := hid (by have := pOne_any M last x g (w.heap.size + 1) wd (.slice V many cv) wr HPX.out (Nat.lt_succ_of_lt HGL.out) (by rw [HML.out]; exact HO.out) (by rw [HML.out]; exact HM.out) HXL.out; exact this)
      have HXX := hid (Pat.onE_bd wd M last x)
      have HS := hid (Pat.onS_succ wd r M last x)
      have HEL := hid (Pat.onE_len (w := wd) (M := M) (last := last) (s := x))
      obtain ⟨⟨E, p, M2, x2⟩, hEE⟩ : ∃ y, Pat.onE wd M last x = y := ⟨_, rfl⟩
      unfold POne at HC1
      rw [hEE] at HC1 HXX HS HEL
      simp only at HC1 HXX HS HEL
      have hEb : (E : Int) ≤ 255 := by have := HXX.out; omega
      have hpb : (p : Int) ≤ 255 := by have := HXX.out; omega
      clear hr hEE hlt HON2
      by_cases hE0 : E = 0
      · subst hE0
        go_wp2_with fail
        refine Calls.mono HC1.out ?_
        rintro e w7 ⟨rfl, hb2, hok⟩
        obtain ⟨hp2, ho2⟩ := hok trivial
        have HB7 := hid (HB.out.but2 hb2 HNE.out (fun e => by have := HVB.out _ e; omega))
        have HP7 := hid hp2
        have HO7 := hid ho2
        have HX7 := hid (HX.out.trans (hb2.below (Nat.le_refl g) (Nat.le_trans (Nat.le_of_lt HGL.out) HX.out.size) (fun b e => by have := HVB.out b e; have := HGL.out; omega)))
        clear hb2 hp2 ho2 hok
        go_wp2
        go_roundw
        case rel => exact ⟨j + 1, p, M2, x2, by omega, by go_num, rfl, rfl, by omega, by omega, hid (by rw [HON.out, HS.out, HR.out]; rfl), hid (by rw [HEL.out, HML.out]), hid (by have := HXX.out; have := HXL.out; omega), HP7, HB7.out, hid (by have := HO7.out; rw [HML.out] at this; exact this), HX7⟩
        case measure => simp [intOf]; omega
      · have h7 : ((E : Int) != 0) = true := by rw [bne_iff_ne]; omega
        have h8 : ((E : Int) == 0) = false := by rw [beq_eq_false_iff_ne]; omega
        have HE0 := hid hE0
        have HFR := hid (show Pat.fr3 a wd q U (u.drop sz) = (E, 0, []) by
          have h1 : (Pat.onS wd q U (-1) (u.drop sz)).1 = E := by rw [HON.out, HS.out, if_pos hE0]
          rw [Pat.fr3_err (by rw [h1]; exact hE0), h1])
        clear hE0
        go_wp2_with fail
        refine Calls.mono HC1.out ?_
        rintro e w7 ⟨rfl, hb2, _⟩
        have hB7 := HB.out.but2 hb2 HNE.out (fun e => by have := HVB.out _ e; omega)
        have HB7 := hid hB7
        have HX7 := hid (HX.out.trans (hb2.below (Nat.le_refl g) (Nat.le_trans (Nat.le_of_lt HGL.out) HX.out.size) (fun b e => by have := HVB.out b e; have := HGL.out; omega)))
        have hc0 := hB7.cell 0
        have hc1 := hB7.cell 1
        clear hb2 hB7
        go_wp2_with (with_reducible (show wpList _ _ _ (⟨none, .store 148 (.tmp 4) (.tmp 76), _, _, _, _⟩ :: _) _ _); go_loud (refine wpList_store_blk rfl 148 (.tmp 4) (.tmp 76) rfl w.heap.size #[.int .u64 (a : Int), .slice V many cv] rfl rfl 148 _ HB7.out (by kernel_rfl) rfl (by simp [Value.oneCell']) w.heap.size (Nat.le_refl _) ?_; intro w6 hB6 hF6 hL6; have HB6 := hid hB6; have HF6 := hid hF6; have HL6 := hid hL6; clear hB6 hF6 hL6))
        refine bodyPost_ret (results_blk2 rfl _ _ w.heap.size 148 _ _ rfl HB6.out Tryz.underlying148 rfl (by kernel_rfl)) rfl ?_
        rw [HFR.out]
        exact ⟨a, _, _, _, rfl, Below.trans HX7.out (HL6.out.mono (Nat.le_of_lt HGL.out)), fun h => absurd h HE0.out⟩
    · obtain rfl : j = q := by omega
      rw [Nat.sub_self] at HON
      have HON2 := hid (show Pat.onS wd j U (-1) (u.drop sz) = (0, M, x) by rw [HON.out]; rfl)
      obtain ⟨XX, hXX⟩ : ∃ XX : ByteArray, XX = ⟨x.toArray⟩ := ⟨_, rfl⟩
      have hpx := HPX.out
      unfold PRd at hpx
      rw [← hXX] at hpx
      have hcx := hpx.cell 0
      clear hpx HON
      by_cases hx0 : x = []
      · have HFR := hid (show Pat.fr3 a wd j U (u.drop sz) = (0, a, M) by rw [Pat.fr3_ok (by rw [HON2.out]) (by rw [HON2.out]; exact hx0), HON2.out])
        obtain rfl : XX = ⟨#[]⟩ := by rw [hXX, hx0]
        clear hXX hx0
        go_wp2_with (with_reducible (show wpList _ _ _ (⟨none, .store 148 (.tmp 4) (.tmp 84), _, _, _, _⟩ :: _) _ _); go_loud (refine wpList_store_blk rfl 148 (.tmp 4) (.tmp 84) rfl w.heap.size #[.int .u64 (a : Int), .slice V many cv] rfl rfl 148 _ HB.out (by kernel_rfl) rfl (by simp [Value.oneCell']) w.heap.size (Nat.le_refl _) ?_; intro w6 hB6 hF6 hL6; have HB6 := hid hB6; have HF6 := hid hF6; have HL6 := hid hL6; clear hB6 hF6 hL6))
        refine bodyPost_ret (results_blk2 rfl _ _ w.heap.size 148 _ _ rfl HB6.out Tryz.underlying148 rfl (by kernel_rfl)) rfl ?_
        rw [HFR.out]
        have HOF := hid (own_far HO.out (fun e => by have := (HO.out.lt _ e).1; omega) HF6.out)
        exact ⟨a, _, _, _, rfl, Below.trans HX.out (HL6.out.mono (Nat.le_of_lt HGL.out)), fun _ => ⟨rfl, HOF.out⟩⟩
      · have HFR := hid (show Pat.fr3 a wd j U (u.drop sz) = (1, 0, []) by rw [Pat.fr3_more (by rw [HON2.out]) (by rw [HON2.out]; exact hx0)])
        have e1 : XX.toList.isEmpty = false := by
          rw [ByteArray.toList_eq, hXX]; cases x with
          | nil => exact absurd rfl hx0
          | cons _ _ => rfl
        clear hXX hx0
        go_wp2_with (with_reducible (show wpList _ _ _ (⟨none, .store 148 (.tmp 4) (.tmp 84), _, _, _, _⟩ :: _) _ _); go_loud (refine wpList_store_blk rfl 148 (.tmp 4) (.tmp 84) rfl w.heap.size #[.int .u64 (a : Int), .slice V many cv] rfl rfl 148 _ HB.out (by kernel_rfl) rfl (by simp [Value.oneCell']) w.heap.size (Nat.le_refl _) ?_; intro w6 hB6 hF6 hL6; have HB6 := hid hB6; have HF6 := hid hF6; have HL6 := hid hL6; clear hB6 hF6 hL6))
        refine bodyPost_ret (results_blk2 rfl _ _ w.heap.size 148 _ _ rfl HB6.out Tryz.underlying148 rfl (by kernel_rfl)) rfl ?_
        rw [HFR.out]
        exact ⟨a, _, _, _, rfl, Below.trans HX.out (HL6.out.mono (Nat.le_of_lt HGL.out)), fun h => by cases h⟩
theorem pFrame_any (s : List UInt8) (many g : Nat) (w : World) (h : PRd g w s) (hs : s.length ≤ 281474976710656) (hm : many ≤ 64) :
    Calls Tryz.prog 158 #[.pointer (some ⟨g, 0, none⟩), .int .i64 many] w (PFr g many s w) := by
  obtain ⟨⟨a, k, e0⟩, hrd⟩ : ∃ p, Vary.rd s = p := ⟨_, rfl⟩
  have hk : k ≤ s.length := by have := (Vary.rd_bd s).1; rw [hrd] at this; exact this
  have ha : a < 18446744073709551616 := by have := (Vary.rd_bd s).2.1; rw [hrd] at this; exact this
  by_cases he : e0 = 0
  · match hcd : s.drop k with
    | [] => exact pFrame_short s many g w h hs hm a k e0 hrd hk ha he (by rw [hcd]; decide)
    | [_] => exact pFrame_short s many g w h hs hm a k e0 hrd hk ha he (by rw [hcd]; simp)
    | c :: d :: u =>
      by_cases h64 : 64 < c.toNat
      · exact pFrame_wide s many g w h hs hm a k e0 hrd hk ha he c d u hcd h64
      by_cases h5 : u.length < Bits.size many c.toNat
      · exact pFrame_short2 s many g w h hs hm a k e0 hrd hk ha he c d u hcd h64 h5
      by_cases h6 : Bits.chk (u.take (Bits.size many c.toNat)) many c.toNat = 0
      · exact pFrame_loop s many g w h hs hm a k e0 hrd hk ha he c d u hcd h64 h5 h6
      · exact pFrame_bad s many g w h hs hm a k e0 hrd hk ha he c d u hcd h64 h5 h6
  · exact pFrame_vary s many g w h hs hm a k e0 hrd hk ha he
end Go.Proofs.YthgnipangcmanaaGreat
end
section
namespace Hy.Pat
open Go
theorem chk_range (s : List UInt8) (many w : Int) : Bits.chk s many w ≤ 3 := by
  rcases Bits.chk_cases s many w with h | h | h | h <;> omega
theorem onS_bd (w : Nat) : ∀ (q : Nat) (M : List Nat) (last : Int) (s : List UInt8), (onS w q M last s).1 ≤ 5
  | 0, _, _, _ => Nat.zero_le _
  | q + 1, M, last, s => by
    rw [onS_succ]
    split
    · exact (onE_bd w M last s).1
    · exact onS_bd w q _ _ _
theorem fr_bd (s : List UInt8) (many : Nat) : (fr s many).1 ≤ 5 ∧ (fr s many).2.1 < 18446744073709551616 ∧ ((fr s many).1 = 0 → (fr s many).2.2.length = many ∧ ∀ x ∈ (fr s many).2.2, x < 18446744073709551616) := by
  obtain ⟨⟨a, k, e0⟩, hrd⟩ : ∃ p, Vary.rd s = p := ⟨_, rfl⟩
  have hb := Vary.rd_bd s
  rw [hrd] at hb
  simp only at hb
  by_cases he : e0 = 0
  · subst he
    rw [fr_ok hrd]
    match s.drop k with
    | [] => rw [fr1_short (by simp)]; simp
    | [_] => rw [fr1_short (by simp)]; simp
    | c :: d :: u =>
      rw [fr1_cons]
      by_cases h64 : 64 < c.toNat
      · rw [fr2_wide h64]; simp
      by_cases h5 : u.length < Bits.size many c.toNat
      · rw [fr2_short h64 h5]; simp
      by_cases h6 : Bits.chk (u.take (Bits.size many c.toNat)) many c.toNat = 0
      · rw [fr2_ok h64 h5 h6]
        have hU := Bits.unp_len (u.take (Bits.size many c.toNat)) many c.toNat
        have hUl : ∀ x ∈ Bits.unp (u.take (Bits.size many c.toNat)) many c.toNat, x < 18446744073709551616 := fun x hx => by
          have h1 := Bits.unp_lt _ _ _ x hx
          have h2 : 2 ^ c.toNat ≤ 2 ^ 64 := Nat.pow_le_pow_right (by decide) (by omega)
          omega
        generalize Bits.unp (u.take (Bits.size many c.toNat)) many c.toNat = U at *
        by_cases h7 : (onS c.toNat d.toNat U (-1) (u.drop (Bits.size many c.toNat))).1 = 0
        · by_cases h8 : (onS c.toNat d.toNat U (-1) (u.drop (Bits.size many c.toNat))).2.2 = []
          · rw [fr3_ok h7 h8]
            exact ⟨Nat.zero_le _, hb.2.1, fun _ => ⟨by show (onS _ _ _ _ _).2.1.length = many; rw [onS_len, hU], onS_lt _ _ _ _ _ hUl⟩⟩
          · rw [fr3_more h7 h8]; simp
        · rw [fr3_err h7]
          exact ⟨onS_bd _ _ _ _ _, by simp, fun h => absurd h h7⟩
      · rw [fr2_bad h64 h5 h6]
        have := chk_range (u.take (Bits.size many c.toNat)) many c.toNat
        exact ⟨by show Bits.chk _ _ _ ≤ 5; omega, by simp, fun h => absurd h h6⟩
  · rw [fr_vary hrd he]
    exact ⟨hb.2.2, by simp, fun h => absurd h he⟩
theorem add_part {b : Nat} {M : List Nat} {j : Nat} (hj : j < M.length) (h : ¬ M[j] + b < 18446744073709551616) : add b M = ([], 8) := by
  unfold add
  rw [if_neg]
  intro e
  have := List.all_eq_true.1 e M[j] (List.getElem_mem hj)
  exact h (of_decide_eq_true this)
theorem add_all {b : Nat} {M : List Nat} (h : ∀ i, i < M.length → (M.getD i 0) + b < 18446744073709551616) : add b M = (M.map (· + b), 0) := by
  unfold add
  rw [if_pos]
  refine List.all_eq_true.2 fun x hx => ?_
  obtain ⟨i, hi, rfl⟩ := List.mem_iff_getElem.1 hx
  have := h i hi
  rw [List.getD_eq_getElem?_getD, List.getElem?_eq_getElem hi] at this
  exact decide_eq_true this
end Hy.Pat
namespace Go.Proofs.YthgnipangcmanaaGreat
open Go.RowKit Hy
theorem add64_run (x y : Nat) (hx : x < 18446744073709551616) (hy : y < 18446744073709551616) (w : World) :
    (callFunc 159 #[.int .u64 (x : Int), .int .u64 (y : Int), .int .u64 0]).run Tryz.prog w = .ok (.value (.tuple #[.int .u64 (((x + y) % 18446744073709551616 : Nat) : Int), .int .u64 (((x + y) / 18446744073709551616 : Nat) : Int)])) w := by
  rw [run_callFunc_extern Tryz.func159 (by kernel_rfl) (by kernel_rfl) (by kernel_rfl) (e := add64Entry) (by kernel_rfl), run_add64 x y 0 (by omega) (by omega) (by omega) (by omega)]
  simp only [Result.andThen]
  congr 5 <;> omega
set_option maxRecDepth 100000 in
set_option maxHeartbeats 1600000 in
theorem pRead_own (s : ByteArray) (many : Int) (w : World) (hs : s.size ≤ 281474976710656) :
    Calls Tryz.prog 121 #[.string s, .int .i64 many] w (NumsOwn 34 (Pat.rdP s.data.toList many).1 (Pat.rdP s.data.toList many).2 w) := by
  by_cases hneg : many < 0
  · rw [Pat.rdP_neg hneg]
    go_enter Tryz.func121, Tryz.ntmps121
    go_wp2
    go_returns
    exact ⟨.slice none 0 0, rfl, World.ownsRow_nil _ _ _ _, ext_refl _⟩
  by_cases hmany : 64 < many
  · rw [Pat.rdP_many hmany]
    go_enter Tryz.func121, Tryz.ntmps121
    go_wp2
    go_returns
    exact ⟨.slice none 0 0, rfl, World.ownsRow_nil _ _ _ _, ext_refl _⟩
  obtain ⟨m, rfl⟩ : ∃ m : Nat, many = (m : Int) := ⟨many.toNat, by omega⟩
  have hm : m ≤ 64 := by omega
  obtain ⟨L, hL⟩ : ∃ L, L = s.data.toList := ⟨_, rfl⟩
  have hLs : L.length = s.size := by rw [hL]; simp
  rw [← hL]
  have HP := hid (show PRd w.heap.size (w.alloc (.cells #[.string s] 163)) L by
    unfold PRd; rw [hL, str_self]; exact Blk.new w _ _)
  have HFC := hid (pFrame_any L m w.heap.size _ HP.out (by omega) hm)
  have hbd := Pat.fr_bd L m
  unfold PFr at HFC
  by_cases he : (Pat.fr L m).1 = 0
  · rw [Pat.rdP_ok hm he]
    obtain ⟨⟨E, b, M⟩, hF⟩ : ∃ y, Pat.fr L m = y := ⟨_, rfl⟩
    rw [hF] at HFC he hbd ⊢
    simp only at he
    subst he
    simp only at hbd HFC ⊢
    obtain ⟨_, hbl, hMM⟩ := hbd
    obtain ⟨hMl, hMx⟩ := hMM trivial
    have hbI : (b : Int) ≤ 18446744073709551615 := by omega
    have hmI : (m : Int) ≤ 64 := by omega
    have HML := hid hMl
    have HMX := hid hMx
    have HBL := hid hbl
    clear hL hLs hF hMl hMx hMM hbl hneg hmany hs hm
    go_enter Tryz.func121, Tryz.ntmps121
    go_wp2_with fail
    refine Calls.mono HFC.out ?_
    rintro e w1 ⟨b', V0, nv0, cv0, rfl, hx, hok⟩
    obtain ⟨rfl, hown⟩ := hok trivial
    have HX := hid (Below.trans ((ext_refl w).new (.cells #[.string s] 163)) hx)
    have HO := hid (own_lower hown (show w.heap.size ≤ _ by simp; omega))
    have HOS := hid (fun k (e : (Value.slice V0 nv0 cv0).ownBlock = some k) => hown.lt k e)
    clear hx hok hown
    obtain ⟨V, cv, hv, _⟩ := Rd.owned HO.out
    obtain ⟨rfl, rfl, rfl⟩ : V = V0 ∧ m = nv0 ∧ cv = cv0 := by injection hv with h1 h2 h3; exact ⟨h1.symm, h2.symm, h3.symm⟩
    clear hv
    go_wp2
    go_loopw [32] (fun c wr => ∃ (j : Nat), j ≤ m ∧ c = .int .i64 j ∧ Hid (∀ i, i < j → (M.getD i 0) + b' < 18446744073709551616) ∧ Blk wr w1.heap.size 148 #[.int .u64 (b' : Int), .slice V m cv] ∧ Hid (wr.ownsRow w.heap.size 34 1 (.slice V m cv) m (u64s ((M.take j).map (· + b') ++ M.drop j))) ∧ Hid (Ext w wr)) (fun c _ => m - (intOf c).toNat)
    case atStart => exact ⟨0, Nat.zero_le _, rfl, hid (fun i h => absurd h (Nat.not_lt_zero _)), Blk.new _ _ _, hid (by simpa using own_ext HO.out ((ext_refl _).new _)), hid (Ext.new HX.out _)⟩
    case round =>
      obtain ⟨j, hj, rfl, HP, B, HO2, HX2⟩ := hrel
      have HB := hid B
      have hc0 := B.cell 0
      have hc1 := B.cell 1
      clear B
      by_cases hlt : j < m
      · have hjI : (j : Int) < (m : Int) := by omega
        have hjl : j < M.length := by rw [HML.out]; exact hlt
        have hxx := HMX.out M[j] (List.getElem_mem hjl)
        have HDJ := hid (show M.getD j 0 = M[j] by rw [List.getD_eq_getElem?_getD, List.getElem?_eq_getElem hjl]; rfl)
        have hcell : (u64s ((M.take j).map (· + b') ++ M.drop j))[j]? = some (.int .u64 ((M[j] : Nat) : Int)) := by
          unfold u64s
          rw [List.getElem?_map, List.getElem?_append_right (by simp; omega)]
          simp [Nat.min_eq_left (Nat.le_of_lt hjl), List.getElem?_eq_getElem hjl]
        have HSET := hid (fun z : Nat => show (u64s ((M.take j).map (· + b') ++ M.drop j)).set j (.int .u64 (z : Int)) = u64s ((M.take j).map (· + b') ++ z :: M.drop (j + 1)) by
          rw [u64s_set, List.set_append_right _ _ (by simp; omega), List.length_map, List.length_take, Nat.min_eq_left (Nat.le_of_lt hjl), Nat.sub_self, List.drop_eq_getElem_cons hjl]; rfl)
        have HTK := hid (show (M.take (j + 1)).map (· + b') ++ M.drop (j + 1) = (M.take j).map (· + b') ++ (M[j] + b') :: M.drop (j + 1) by rw [List.take_succ_eq_append_getElem hjl, List.map_append, List.append_assoc]; rfl)
        have HOV := hid (fun h => Pat.add_part (b := b') hjl h)
        obtain ⟨g3, c3, hv3, _, hg3, cur, hb3⟩ := own_base HO2.out (by omega)
        cases hv3
        have d0 := HO2.out.cellAt j (by omega)
        have f0 := HO2.out.frozenAt j
        rw [hcell] at d0
        have HGN := hid (show g3 ≠ w1.heap.size from fun e => by
          have := (HOS.out g3 rfl).2; omega)
        have hA := fun wx => add64_run b' M[j] HBL.out hxx wx
        generalize M[j] = x at *
        have hxI : (x : Int) ≤ 18446744073709551615 := by omega
        by_cases hov : x + b' < 18446744073709551616
        · rw [Nat.mod_eq_of_lt (show b' + x < 18446744073709551616 by omega), Nat.div_eq_of_lt (show b' + x < 18446744073709551616 by omega)] at hA
          obtain ⟨z, hz⟩ : ∃ z, z = b' + x := ⟨_, rfl⟩
          rw [← hz] at hA
          have hzI : (z : Int) ≤ 18446744073709551615 := by omega
          have HZ := hid hz
          have HOVL := hid hov
          clear hcell hxx hjl hz hov hb3 hg3
          go_wp2_with (simp only [hA])
          go_roundw
          case rel => exact ⟨j + 1, by omega, by go_num, hid (fun i hi => by
              rcases Nat.lt_or_ge i j with h | h
              · exact HP.out i h
              · obtain rfl : i = j := by omega
                rw [HDJ.out]; exact HOVL.out), HB.out.far (p := ⟨g3, j, none⟩) HGN.out.symm _, hid (by rw [HTK.out]; have := own_set HO2.out rfl j (.int .u64 (z : Int)); rw [HSET.out] at this; rw [show x + b' = z by have := HZ.out; omega]; exact this), hid (HX2.out.put (p := ⟨g3, j, none⟩) (HO2.out.lt g3 rfl).1 _)⟩
          case measure => simp [intOf]; omega
        · have hdv : (b' + x) / 18446744073709551616 = 1 := by omega
          rw [hdv] at hA
          obtain ⟨z, hz⟩ : ∃ z, z = (b' + x) % 18446744073709551616 := ⟨_, rfl⟩
          rw [← hz] at hA
          have hzI : (z : Int) ≤ 18446744073709551615 := by omega
          have HAD := hid (HOV.out hov)
          clear hcell hxx hjl hz hov hb3 hg3 hdv
          go_wp2_with (simp only [hA])
          go_returns
          rw [HAD.out]
          exact ⟨.slice none 0 0, rfl, World.ownsRow_nil _ _ _ _, HX2.out⟩
      · obtain rfl : j = m := by omega
        have HAD := hid (Pat.add_all (b := b') (M := M) (fun i hi => HP.out i (by rw [HML.out] at hi; exact hi)))
        rw [List.take_of_length_le (by rw [HML.out]; exact Nat.le_refl _), List.drop_eq_nil_of_le (by rw [HML.out]; exact Nat.le_refl _), List.append_nil] at HO2
        go_wp2
        go_returns
        rw [HAD.out]
        exact ⟨.slice V j cv, rfl, by simpa only [List.length_map, HML.out] using HO2.out, HX2.out⟩
  · rw [Pat.rdP_err hm he]
    have hEb := hbd.1
    obtain ⟨E, hE⟩ : ∃ E, E = (Pat.fr L m).1 := ⟨_, rfl⟩
    rw [← hE] at HFC he hEb ⊢
    have hEI : (E : Int) ≤ 5 := by omega
    have h7 : ((E : Int) != 0) = true := by rw [bne_iff_ne]; omega
    have h8 : ((E : Int) == 0) = false := by rw [beq_eq_false_iff_ne]; omega
    have hmI : (m : Int) ≤ 64 := by omega
    clear hL hLs hE he hneg hmany hs hm hbd
    go_enter Tryz.func121, Tryz.ntmps121
    go_wp2_with fail
    refine Calls.mono HFC.out ?_
    rintro e w1 ⟨b', V0, nv0, cv0, rfl, hx, _⟩
    have HX := hid (Below.trans ((ext_refl w).new (.cells #[.string s] 163)) hx)
    clear hx
    go_wp2
    go_returns
    exact ⟨.slice none 0 0, rfl, World.ownsRow_nil _ _ _ _, Ext.new HX.out _⟩
end Go.Proofs.YthgnipangcmanaaGreat
end
section
namespace Go.Proofs.YthgnipangcmanaaGreat
open Go.RowKit Hy
theorem cloneN_any (l : List Nat) (A : Option Addr) (n cap : Nat) (w : World) (hn : l.length = n) (hr : Rd w A (u64s l)) (hA : A = none → n = 0) (hnl : n ≤ 1000000000000) :
    Calls Tryz.prog 144 #[.slice A n cap] w fun e w' => ∃ v, e = .returned v ∧ w'.ownsRow w.heap.size 34 1 v n (u64s l) ∧ Ext w w' := by
  have HN := hid hn
  have HR := hid hr
  have HL := hid hnl
  have q := fun (w : World) (a : Option Addr) (n c n' c' : Nat) => Lib.run_eql_slice_nil w 58 34 a n c n' c' Tryz.underlying58
  have hnI : (n : Int) ≤ 1000000000000 := by omega
  cases A with
  | none =>
    obtain rfl : n = 0 := hA rfl
    obtain rfl : l = [] := List.eq_nil_of_length_eq_zero hn
    clear hn hr hA hnl
    go_enter Tryz.func144, Tryz.ntmps144
    go_wp2
    go_returns
    exact ⟨_, rfl, World.ownsRow_nil _ _ _ _, ext_refl _⟩
  | some a =>
    clear hn hr hA hnl
    go_enter Tryz.func144, Tryz.ntmps144
    go_wp2_with (at_builtin; go_loud (refine wpList_app rfl (.tmp 5) (.tmp 6) rowU64 rfl _ 0 [] rfl (own_new (base := w.heap.size) (n := 0) rfl rfl (Nat.le_refl _) (by decide)) _ n (u64s l) rfl (Src.rd Tryz.underlying58 _ n cap _ (by rw [u64s_len, HN.out, Nat.mul_one]) (HR.out.keep (Ext.new (ext_refl _) _)) (u64s_one _) (fun h => by cases h)) (by have := HL.out; simp only [maxLen]; omega) (by have := HL.out; omega) (by simp) ?_; intro v' w4 hown4 hgrow hat hbel))
    go_returns
    exact ⟨_, rfl, by simpa using hown4, (Ext.new (ext_refl w) _).trans hbel⟩
end Go.Proofs.YthgnipangcmanaaGreat
end
