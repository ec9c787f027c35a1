/- Delta: along with the closures of Diffs and of Sums; Zig, Zag; all: walks (printed by gen_dla.py). -/
import Derived.Test.YtdblegdbfdhepaaDlp
namespace Hy
open Go Go.RowKit
theorem xor_zero64 (n : Nat) (h : n < 18446744073709551616) : bits .xor .u64 (n : Int) 0 = (n : Int) := by
  show IntKind.u64.wrap ((BitVec.ofInt 64 (n : Int) ^^^ BitVec.ofInt 64 0).toNat : Int) = _
  rw [show (BitVec.ofInt 64 0) = 0#64 from rfl, BitVec.xor_zero, BitVec.ofInt_natCast, BitVec.toNat_ofNat, IntKind.wrap_u64]
  omega
theorem xor_ones64 (n : Nat) (h : n < 18446744073709551616) : bits .xor .u64 (n : Int) 18446744073709551615 = ((18446744073709551615 - n : Nat) : Int) := by
  show IntKind.u64.wrap ((BitVec.ofInt 64 (n : Int) ^^^ BitVec.ofInt 64 18446744073709551615).toNat : Int) = _
  rw [show (BitVec.ofInt 64 18446744073709551615) = BitVec.allOnes 64 from rfl, BitVec.xor_allOnes, BitVec.toNat_not, BitVec.ofInt_natCast, BitVec.toNat_ofNat, IntKind.wrap_u64]
  omega
/-- numbers in new memory, their room, and an error -/
def NumsCap (l : List Nat) (err : Nat) (w : World) (e : Ending) (w' : World) : Prop := ∃ A cap, e = .returned (.tuple #[.slice A l.length cap, .int .i64 err]) ∧ Rd w' A (u64s l) ∧ Ext w w' ∧ l.length ≤ cap
end Hy
namespace Go.Proofs.Ytdblegdbfdhepaa
open Go.RowKit Hy
theorem clo_dif (p x y : Nat) (hy : IntKind.u64.wrap ((x : Int) - (p : Int)) = (y : Int)) (w : World) :
    Calls Try.prog 76 #[.int .u64 p, .int .u64 x] w fun e w' => e = .returned (.tuple #[.int .u64 x, .int .u64 y]) ∧ w = w' := by
  go_enter Try.func76, Try.ntmps76
  go_wp2
  go_returns
  exact ⟨rfl, rfl⟩
theorem clo_sum (p x y : Nat) (hy : IntKind.u64.wrap ((p : Int) + (x : Int)) = (y : Int)) (w : World) :
    Calls Try.prog 77 #[.int .u64 p, .int .u64 x] w fun e w' => e = .returned (.tuple #[.int .u64 y, .int .u64 y]) ∧ w = w' := by
  go_enter Try.func77, Try.ntmps77
  go_wp2
  go_returns
  exact ⟨rfl, rfl⟩
set_option maxHeartbeats 1000000 in
theorem along_dif (l : List Nat) (A : Option Addr) (n cap : Nat) (w : World) (hn : l.length = n) (hr : Rd w A (u64s l)) (hl : ∀ x ∈ l, x < 18446744073709551616) (hnl : n ≤ 9223372036854775806) :
    Calls Try.prog 75 #[.slice A n cap, .func (.func 76) #[] #[]] w (NumsCap (Dlt.df l).1 (Dlt.df l).2 w) := by
  have hnI : (n : Int) ≤ 9223372036854775806 := by omega
  by_cases h64 : 64 < n
  · have h64I : (64 : Int) < (n : Int) := by omega
    unfold Dlt.df
    rw [if_pos (by omega)]
    clear hr hn hnl
    go_enter Try.func75, Try.ntmps75
    go_wp2
    go_returns
    exact ⟨none, 0, rfl, fun h => by simp [u64s] at h, ext_refl _, Nat.le_refl _⟩
  · have h64I : (n : Int) ≤ 64 := by omega
    unfold Dlt.df
    rw [if_neg (by omega)]
    have HR := hid hr
    have HN := hid hn
    have HL := hid hl
    clear hr hn hl hnl h64 hnI
    go_enter Try.func75, Try.ntmps75
    go_wp2
    go_loopw [6, 7, 9, 10, 16] (fun v t _ _ c wr => ∃ i : Nat, i ≤ n ∧ c = .int .i64 i ∧ t = .int .u64 ((Dlt.lst 0 (l.take i) : Nat) : Int) ∧ Hid (wr.ownsRow w.heap.size 33 1 v i (u64s (Dlt.difs 0 (l.take i)))) ∧ Ext w wr) (fun _ _ _ _ c _ => n - (intOf c).toNat)
    case atStart => exact ⟨0, Nat.zero_le _, rfl, rfl, hid (World.ownsRow_nil _ _ _ _), ext_refl _⟩
    case round =>
      obtain ⟨i, hi, rfl, rfl, HO, X⟩ := hrel
      by_cases hlt : i < n
      · have hltI : (i : Int) < (n : Int) := by omega
        obtain ⟨x, hx⟩ : ∃ x, l[i]? = some x := ⟨_, List.getElem?_eq_getElem (by rw [HN.out]; exact hlt)⟩
        have hxl := HL.out x (List.mem_of_getElem? hx)
        obtain ⟨b1, o1, rfl, l1, c1⟩ := HR.out.num0 (by rw [HN.out]; omega)
        have d0 := (X.cell (p := ⟨b1, o1 + i, none⟩) l1).trans (c1 i x hx)
        have htk : l.take (i + 1) = l.take i ++ [x] := by rw [List.take_add_one, hx]; rfl
        have HS1 := hid (show Dlt.difs 0 (l.take (i + 1)) = Dlt.difs 0 (l.take i) ++ [Dlt.sb x (Dlt.lst 0 (l.take i))] by rw [htk, Dlt.difs_snoc])
        have HS2 := hid (show Dlt.lst 0 (l.take (i + 1)) = x by rw [htk, Dlt.lst_snoc])
        have hp : Dlt.lst 0 (l.take i) < 18446744073709551616 := Dlt.lst_lt 0 _ (by decide) (fun z hz => HL.out z (List.mem_of_mem_take hz))
        have hwx := Dlt.sb_int x _ hp
        have hvl : Dlt.sb x (Dlt.lst 0 (l.take i)) < 18446744073709551616 := Dlt.sb_lt _ _
        have HI64 := hid (show i ≤ 64 by omega)
        generalize Dlt.lst 0 (l.take i) = p at *
        generalize Dlt.difs 0 (l.take i) = L at *
        have hpI : (p : Int) ≤ 18446744073709551615 := by omega
        have hxI : (x : Int) ≤ 18446744073709551615 := by omega
        obtain ⟨y, hy⟩ : ∃ y, y = Dlt.sb x p := ⟨_, rfl⟩
        rw [← hy] at hwx HS1 hvl
        have hyI : (y : Int) ≤ 18446744073709551615 := by omega
        clear c1 hx hxl htk hp hy hvl
        go_wp2_with (first
          | (go_at_call 76; refine (clo_dif p x y hwx _).mono ?_; rintro e w2 ⟨rfl, rfl⟩)
          | (at_builtin; refine wpList_app rfl (.tmp 27) (.tmp 29) rowU64 rfl _ i _ rfl (own_ext HO.out ((ext_refl _).new _)) _ 1 (u64s [y]) rfl (Src.rd Try.underlying22 _ 1 1 _ rfl (rd_lit rfl rfl) (u64s_one _) (fun h => by cases h)) (by have := HI64.out; unfold maxLen; omega) (by have := HI64.out; omega) (by have := X.size; simp; omega) ?_; intro v' w3 hown3 hgrow hat hbel; have O3 := hid hown3; have X3 := hid ((X.new _).trans hbel); clear hown3 hgrow hat hbel))
        go_roundw
        case rel => exact ⟨i + 1, by omega, by go_num, by rw [HS2.out], hid (by rw [HS1.out, u64s_app]; exact O3.out), X3.out⟩
        case measure => simp [intOf]; omega
      · obtain rfl : i = n := by omega
        obtain ⟨B, c, rfl, hrd, _, hcc, _⟩ := Rd.owned HO.out
        have HCC := hid hcc
        have hti : l.take i = l := List.take_of_length_le (by rw [HN.out]; exact Nat.le_refl _)
        rw [hti] at hrd
        have HRD := hid hrd
        clear hrd hti hcc
        go_wp2
        go_returns
        exact ⟨B, c, by rw [Dlt.difs_len, HN.out]; rfl, HRD.out, X, by rw [Dlt.difs_len, HN.out]; exact HCC.out⟩
set_option maxHeartbeats 1000000 in
theorem along_sum (l : List Nat) (A : Option Addr) (n cap : Nat) (w : World) (hn : l.length = n) (hr : Rd w A (u64s l)) (hl : ∀ x ∈ l, x < 18446744073709551616) (hnl : n ≤ 9223372036854775806) :
    Calls Try.prog 75 #[.slice A n cap, .func (.func 77) #[] #[]] w (NumsCap (Dlt.sm l).1 (Dlt.sm l).2 w) := by
  have hnI : (n : Int) ≤ 9223372036854775806 := by omega
  by_cases h64 : 64 < n
  · have h64I : (64 : Int) < (n : Int) := by omega
    unfold Dlt.sm
    rw [if_pos (by omega)]
    clear hr hn hnl
    go_enter Try.func75, Try.ntmps75
    go_wp2
    go_returns
    exact ⟨none, 0, rfl, fun h => by simp [u64s] at h, ext_refl _, Nat.le_refl _⟩
  · have h64I : (n : Int) ≤ 64 := by omega
    unfold Dlt.sm
    rw [if_neg (by omega)]
    have HR := hid hr
    have HN := hid hn
    have HL := hid hl
    clear hr hn hl hnl h64 hnI
    go_enter Try.func75, Try.ntmps75
    go_wp2
    go_loopw [6, 7, 9, 10, 16] (fun v t _ _ c wr => ∃ i : Nat, i ≤ n ∧ c = .int .i64 i ∧ t = .int .u64 ((Dlt.tot 0 (l.take i) : Nat) : Int) ∧ Hid (wr.ownsRow w.heap.size 33 1 v i (u64s (Dlt.sums 0 (l.take i)))) ∧ Ext w wr) (fun _ _ _ _ c _ => n - (intOf c).toNat)
    case atStart => exact ⟨0, Nat.zero_le _, rfl, rfl, hid (World.ownsRow_nil _ _ _ _), ext_refl _⟩
    case round =>
      obtain ⟨i, hi, rfl, rfl, HO, X⟩ := hrel
      by_cases hlt : i < n
      · have hltI : (i : Int) < (n : Int) := by omega
        obtain ⟨x, hx⟩ : ∃ x, l[i]? = some x := ⟨_, List.getElem?_eq_getElem (by rw [HN.out]; exact hlt)⟩
        have hxl := HL.out x (List.mem_of_getElem? hx)
        obtain ⟨b1, o1, rfl, l1, c1⟩ := HR.out.num0 (by rw [HN.out]; omega)
        have d0 := (X.cell (p := ⟨b1, o1 + i, none⟩) l1).trans (c1 i x hx)
        have htk : l.take (i + 1) = l.take i ++ [x] := by rw [List.take_add_one, hx]; rfl
        have HS1 := hid (show Dlt.sums 0 (l.take (i + 1)) = Dlt.sums 0 (l.take i) ++ [Dlt.ad (Dlt.tot 0 (l.take i)) x] by rw [htk, Dlt.sums_snoc])
        have HS2 := hid (show Dlt.tot 0 (l.take (i + 1)) = Dlt.ad (Dlt.tot 0 (l.take i)) x by rw [htk, Dlt.tot_snoc])
        have hp : Dlt.tot 0 (l.take i) < 18446744073709551616 := Dlt.tot_lt 0 _ (by decide)
        have hwx := Dlt.ad_int (Dlt.tot 0 (l.take i)) x
        have hvl : Dlt.ad (Dlt.tot 0 (l.take i)) x < 18446744073709551616 := Dlt.ad_lt _ _
        have HI64 := hid (show i ≤ 64 by omega)
        generalize Dlt.tot 0 (l.take i) = p at *
        generalize Dlt.sums 0 (l.take i) = L at *
        have hpI : (p : Int) ≤ 18446744073709551615 := by omega
        have hxI : (x : Int) ≤ 18446744073709551615 := by omega
        obtain ⟨y, hy⟩ : ∃ y, y = Dlt.ad p x := ⟨_, rfl⟩
        rw [← hy] at hwx HS1 hvl HS2
        have hyI : (y : Int) ≤ 18446744073709551615 := by omega
        clear c1 hx hxl htk hp hy hvl
        go_wp2_with (first
          | (go_at_call 77; refine (clo_sum p x y hwx _).mono ?_; rintro e w2 ⟨rfl, rfl⟩)
          | (at_builtin; refine wpList_app rfl (.tmp 27) (.tmp 29) rowU64 rfl _ i _ rfl (own_ext HO.out ((ext_refl _).new _)) _ 1 (u64s [y]) rfl (Src.rd Try.underlying22 _ 1 1 _ rfl (rd_lit rfl rfl) (u64s_one _) (fun h => by cases h)) (by have := HI64.out; unfold maxLen; omega) (by have := HI64.out; omega) (by have := X.size; simp; omega) ?_; intro v' w3 hown3 hgrow hat hbel; have O3 := hid hown3; have X3 := hid ((X.new _).trans hbel); clear hown3 hgrow hat hbel))
        go_roundw
        case rel => exact ⟨i + 1, by omega, by go_num, by rw [HS2.out], hid (by rw [HS1.out, u64s_app]; exact O3.out), X3.out⟩
        case measure => simp [intOf]; omega
      · obtain rfl : i = n := by omega
        obtain ⟨B, c, rfl, hrd, _, hcc, _⟩ := Rd.owned HO.out
        have HCC := hid hcc
        have hti : l.take i = l := List.take_of_length_le (by rw [HN.out]; exact Nat.le_refl _)
        rw [hti] at hrd
        have HRD := hid hrd
        clear hrd hti hcc
        go_wp2
        go_returns
        exact ⟨B, c, by rw [Dlt.sums_len, HN.out]; rfl, HRD.out, X, by rw [Dlt.sums_len, HN.out]; exact HCC.out⟩
theorem diffs_any (l : List Nat) (A : Option Addr) (n cap : Nat) (w : World) (hn : l.length = n) (hr : Rd w A (u64s l)) (hl : ∀ x ∈ l, x < 18446744073709551616) (hnl : n ≤ 9223372036854775806) :
    Calls Try.prog 39 #[.slice A n cap] w (NumsCap (Dlt.df l).1 (Dlt.df l).2 w) := by
  have H := hid (along_dif l A n cap w hn hr hl hnl)
  obtain ⟨L, er, hd⟩ : ∃ L er, Dlt.df l = (L, er) := ⟨_, _, rfl⟩
  rw [hd] at H ⊢
  clear hd hr hl hn hnl
  go_enter Try.func39, Try.ntmps39
  go_wp2_with fail
  refine Calls.mono H.out ?_
  rintro e w1 ⟨B, c, rfl, hrd, hx, hc⟩
  have HRD := hid hrd
  have HX := hid hx
  have HC := hid hc
  clear hrd hx hc
  go_wp2
  go_returns
  exact ⟨B, c, rfl, HRD.out, HX.out, HC.out⟩
theorem sums_any (l : List Nat) (A : Option Addr) (n cap : Nat) (w : World) (hn : l.length = n) (hr : Rd w A (u64s l)) (hl : ∀ x ∈ l, x < 18446744073709551616) (hnl : n ≤ 9223372036854775806) :
    Calls Try.prog 40 #[.slice A n cap] w (NumsCap (Dlt.sm l).1 (Dlt.sm l).2 w) := by
  have H := hid (along_sum l A n cap w hn hr hl hnl)
  obtain ⟨L, er, hd⟩ : ∃ L er, Dlt.sm l = (L, er) := ⟨_, _, rfl⟩
  rw [hd] at H ⊢
  clear hd hr hl hn hnl
  go_enter Try.func40, Try.ntmps40
  go_wp2_with fail
  refine Calls.mono H.out ?_
  rintro e w1 ⟨B, c, rfl, hrd, hx, hc⟩
  have HRD := hid hrd
  have HX := hid hx
  have HC := hid hc
  clear hrd hx hc
  go_wp2
  go_returns
  exact ⟨B, c, rfl, HRD.out, HX.out, HC.out⟩
theorem zig_val (n : Nat) (hn : n < 18446744073709551616) : bits .xor .u64 (IntKind.u64.wrap ((n : Int) * 2)) (IntKind.u64.wrap (wrap64 (n : Int) / 9223372036854775808)) = ((Dlt.zig n : Nat) : Int) := by
  by_cases h : n < 9223372036854775808
  · have e1 : wrap64 (n : Int) = (n : Int) := by unfold wrap64; omega
    have e2 : (n : Int) / 9223372036854775808 = 0 := by omega
    have e3 : IntKind.u64.wrap ((n : Int) * 2) = ((2 * n : Nat) : Int) := by rw [IntKind.wrap_u64]; omega
    have e4 : IntKind.u64.wrap 0 = 0 := by rw [IntKind.wrap_u64]; rfl
    rw [e1, e2, e3, e4, xor_zero64 _ (by omega), Dlt.zig_lo h]
  · have e1 : wrap64 (n : Int) = (n : Int) - 18446744073709551616 := by unfold wrap64; omega
    have e2 : ((n : Int) - 18446744073709551616) / 9223372036854775808 = -1 := by omega
    have e3 : IntKind.u64.wrap ((n : Int) * 2) = ((2 * n - 18446744073709551616 : Nat) : Int) := by rw [IntKind.wrap_u64]; omega
    have e4 : IntKind.u64.wrap (-1) = 18446744073709551615 := by rw [IntKind.wrap_u64]; rfl
    rw [e1, e2, e3, e4, xor_ones64 _ (by omega), Dlt.zig_hi h]
    omega
set_option maxHeartbeats 400000 in
theorem zig_any (n : Nat) (w : World) (hn : n < 18446744073709551616) : Calls Try.prog 44 #[.int .u64 n] w fun e w' => e = .returned (.int .u64 (Dlt.zig n : Nat)) ∧ w = w' := by
  have hv := hid (zig_val n hn)
  clear hn
  go_enter Try.func44, Try.ntmps44
  go_wp2
  go_returns
  exact ⟨by rw [← hv.out]; rfl, rfl⟩
theorem zag_val (n : Nat) (hn : n < 18446744073709551616) : bits .xor .u64 ((n : Int) / 2) (IntKind.u64.wrap (-bits .and .u64 (n : Int) 1)) = ((Dlt.zag n : Nat) : Int) := by
  have hm := Bits.and_mask n 1 hn (by decide)
  rw [show ((2 ^ 1 : Nat) - 1 : Int) = 1 from rfl, Nat.pow_one] at hm
  have hd : (n : Int) / 2 = ((n / 2 : Nat) : Int) := by omega
  rw [hm, hd]
  by_cases h : n % 2 = 0
  · have e4 : IntKind.u64.wrap (-((0 : Nat) : Int)) = 0 := by rw [IntKind.wrap_u64]; rfl
    rw [h, e4, xor_zero64 _ (by omega), Dlt.zag_ev h]
  · have h1 : n % 2 = 1 := by omega
    have e4 : IntKind.u64.wrap (-((1 : Nat) : Int)) = 18446744073709551615 := by rw [IntKind.wrap_u64]; rfl
    rw [h1, e4, xor_ones64 _ (by omega), Dlt.zag_od h]
    omega
set_option maxHeartbeats 400000 in
theorem zag_any (n : Nat) (w : World) (hn : n < 18446744073709551616) : Calls Try.prog 46 #[.int .u64 n] w fun e w' => e = .returned (.int .u64 (Dlt.zag n : Nat)) ∧ w = w' := by
  have hv := hid (zag_val n hn)
  clear hn
  go_enter Try.func46, Try.ntmps46
  go_wp2
  go_returns
  exact ⟨by rw [← hv.out]; rfl, rfl⟩
set_option maxHeartbeats 1000000 in
theorem all_zig (l : List Nat) (A : Option Addr) (n cap : Nat) (w : World) (hn : l.length = n) (hr : Rd w A (u64s l)) (hl : ∀ x ∈ l, x < 18446744073709551616) (hnl : n ≤ 64) :
    Calls Try.prog 78 #[.slice A n cap, .func (.func 44) #[] #[]] w fun e w' => ∃ B c, e = .returned (.slice B n c) ∧ Rd w' B (u64s (l.map Dlt.zig)) ∧ Ext w w' ∧ n ≤ c := by
  have hnI : (n : Int) ≤ 64 := by omega
  have HR := hid hr
  have HN := hid hn
  have HL := hid hl
  have HNL := hid hnl
  clear hr hn hl hnl
  go_enter Try.func78, Try.ntmps78
  go_wp2
  go_loopw [5, 7, 10] (fun v _ c wr => ∃ i : Nat, i ≤ n ∧ c = .int .i64 i ∧ Hid (wr.ownsRow w.heap.size 33 1 v i (u64s ((l.take i).map Dlt.zig))) ∧ Ext w wr) (fun _ _ c _ => n - (intOf c).toNat)
  case atStart => exact ⟨0, Nat.zero_le _, rfl, hid (World.ownsRow_nil _ _ _ _), ext_refl _⟩
  case round =>
    obtain ⟨i, hi, rfl, HO, X⟩ := hrel
    by_cases hlt : i < n
    · have hltI : (i : Int) < (n : Int) := by omega
      obtain ⟨x, hx⟩ : ∃ x, l[i]? = some x := ⟨_, List.getElem?_eq_getElem (by rw [HN.out]; exact hlt)⟩
      have hxl := HL.out x (List.mem_of_getElem? hx)
      obtain ⟨b1, o1, rfl, l1, c1⟩ := HR.out.num0 (by rw [HN.out]; omega)
      have d0 := (X.cell (p := ⟨b1, o1 + i, none⟩) l1).trans (c1 i x hx)
      have HS1 := hid (show (l.take (i + 1)).map Dlt.zig = (l.take i).map Dlt.zig ++ [Dlt.zig x] by rw [List.take_add_one, hx]; simp)
      have CZ := hid (fun wx => zig_any x wx hxl)
      have hzl := Dlt.zig_lt x hxl
      have HI64 := hid (show i ≤ 64 by have := HNL.out; omega)
      generalize (l.take i).map Dlt.zig = L at *
      generalize Dlt.zig x = y at *
      have hxI : (x : Int) ≤ 18446744073709551615 := by omega
      have hyI : (y : Int) ≤ 18446744073709551615 := by omega
      clear c1 hx hxl hzl
      go_wp2_with (first
        | (go_at_call 44; refine (CZ.out _).mono ?_; rintro e w2 ⟨rfl, rfl⟩)
        | (at_builtin; refine wpList_app rfl (.tmp 14) (.tmp 18) rowU64 rfl _ i _ rfl (own_ext HO.out ((ext_refl _).new _)) _ 1 (u64s [y]) rfl (Src.rd Try.underlying22 _ 1 1 _ rfl (rd_lit rfl rfl) (u64s_one _) (fun h => by cases h)) (by have := HI64.out; unfold maxLen; omega) (by have := HI64.out; omega) (by have := X.size; simp; omega) ?_; intro v' w3 hown3 hgrow hat hbel; have O3 := hid hown3; have X3 := hid ((X.new _).trans hbel); clear hown3 hgrow hat hbel))
      go_roundw
      case rel => exact ⟨i + 1, by omega, by go_num, hid (by rw [HS1.out, u64s_app]; exact O3.out), X3.out⟩
      case measure => simp [intOf]; omega
    · obtain rfl : i = n := by omega
      obtain ⟨B, c, rfl, hrd, _, hcc, _⟩ := Rd.owned HO.out
      have HCC := hid hcc
      have hti : l.take i = l := List.take_of_length_le (by rw [HN.out]; exact Nat.le_refl _)
      rw [hti] at hrd
      have HRD := hid hrd
      clear hrd hti hcc
      go_wp2
      go_returns
      exact ⟨B, c, rfl, HRD.out, X, HCC.out⟩
set_option maxHeartbeats 1000000 in
theorem all_zag (l : List Nat) (A : Option Addr) (n cap : Nat) (w : World) (hn : l.length = n) (hr : Rd w A (u64s l)) (hl : ∀ x ∈ l, x < 18446744073709551616) (hnl : n ≤ 64) :
    Calls Try.prog 78 #[.slice A n cap, .func (.func 46) #[] #[]] w fun e w' => ∃ B c, e = .returned (.slice B n c) ∧ Rd w' B (u64s (l.map Dlt.zag)) ∧ Ext w w' ∧ n ≤ c := by
  have hnI : (n : Int) ≤ 64 := by omega
  have HR := hid hr
  have HN := hid hn
  have HL := hid hl
  have HNL := hid hnl
  clear hr hn hl hnl
  go_enter Try.func78, Try.ntmps78
  go_wp2
  go_loopw [5, 7, 10] (fun v _ c wr => ∃ i : Nat, i ≤ n ∧ c = .int .i64 i ∧ Hid (wr.ownsRow w.heap.size 33 1 v i (u64s ((l.take i).map Dlt.zag))) ∧ Ext w wr) (fun _ _ c _ => n - (intOf c).toNat)
  case atStart => exact ⟨0, Nat.zero_le _, rfl, hid (World.ownsRow_nil _ _ _ _), ext_refl _⟩
  case round =>
    obtain ⟨i, hi, rfl, HO, X⟩ := hrel
    by_cases hlt : i < n
    · have hltI : (i : Int) < (n : Int) := by omega
      obtain ⟨x, hx⟩ : ∃ x, l[i]? = some x := ⟨_, List.getElem?_eq_getElem (by rw [HN.out]; exact hlt)⟩
      have hxl := HL.out x (List.mem_of_getElem? hx)
      obtain ⟨b1, o1, rfl, l1, c1⟩ := HR.out.num0 (by rw [HN.out]; omega)
      have d0 := (X.cell (p := ⟨b1, o1 + i, none⟩) l1).trans (c1 i x hx)
      have HS1 := hid (show (l.take (i + 1)).map Dlt.zag = (l.take i).map Dlt.zag ++ [Dlt.zag x] by rw [List.take_add_one, hx]; simp)
      have CZ := hid (fun wx => zag_any x wx hxl)
      have hzl := Dlt.zag_lt x hxl
      have HI64 := hid (show i ≤ 64 by have := HNL.out; omega)
      generalize (l.take i).map Dlt.zag = L at *
      generalize Dlt.zag x = y at *
      have hxI : (x : Int) ≤ 18446744073709551615 := by omega
      have hyI : (y : Int) ≤ 18446744073709551615 := by omega
      clear c1 hx hxl hzl
      go_wp2_with (first
        | (go_at_call 46; refine (CZ.out _).mono ?_; rintro e w2 ⟨rfl, rfl⟩)
        | (at_builtin; refine wpList_app rfl (.tmp 14) (.tmp 18) rowU64 rfl _ i _ rfl (own_ext HO.out ((ext_refl _).new _)) _ 1 (u64s [y]) rfl (Src.rd Try.underlying22 _ 1 1 _ rfl (rd_lit rfl rfl) (u64s_one _) (fun h => by cases h)) (by have := HI64.out; unfold maxLen; omega) (by have := HI64.out; omega) (by have := X.size; simp; omega) ?_; intro v' w3 hown3 hgrow hat hbel; have O3 := hid hown3; have X3 := hid ((X.new _).trans hbel); clear hown3 hgrow hat hbel))
      go_roundw
      case rel => exact ⟨i + 1, by omega, by go_num, hid (by rw [HS1.out, u64s_app]; exact O3.out), X3.out⟩
      case measure => simp [intOf]; omega
    · obtain rfl : i = n := by omega
      obtain ⟨B, c, rfl, hrd, _, hcc, _⟩ := Rd.owned HO.out
      have HCC := hid hcc
      have hti : l.take i = l := List.take_of_length_le (by rw [HN.out]; exact Nat.le_refl _)
      rw [hti] at hrd
      have HRD := hid hrd
      clear hrd hti hcc
      go_wp2
      go_returns
      exact ⟨B, c, rfl, HRD.out, X, HCC.out⟩
end Go.Proofs.Ytdblegdbfdhepaa
