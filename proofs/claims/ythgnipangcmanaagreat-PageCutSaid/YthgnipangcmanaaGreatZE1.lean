/- Texts of this claim, put together: walks and plain laws. -/
import Derived.Test.YthgnipangcmanaaGreatZH2
section
namespace Hy.Dlt
open Go
@[irreducible] def sb (n p : Nat) : Nat := (n + (18446744073709551616 - p)) % 18446744073709551616
@[irreducible] def ad (p n : Nat) : Nat := (p + n) % 18446744073709551616
theorem sb_lt (n p : Nat) : sb n p < 18446744073709551616 := by unfold sb; omega
theorem ad_lt (p n : Nat) : ad p n < 18446744073709551616 := by unfold ad; omega
theorem sb_int (n p : Nat) (hp : p < 18446744073709551616) : IntKind.u64.wrap ((n : Int) - (p : Int)) = ((sb n p : Nat) : Int) := by unfold sb; rw [IntKind.wrap_u64]; omega
theorem ad_int (p n : Nat) : IntKind.u64.wrap ((p : Int) + (n : Int)) = ((ad p n : Nat) : Int) := by unfold ad; rw [IntKind.wrap_u64]; omega
theorem ad_sb (n p : Nat) (hn : n < 18446744073709551616) (hp : p < 18446744073709551616) : ad p (sb n p) = n := by unfold ad sb; omega
theorem sb_zero (n : Nat) (hn : n < 18446744073709551616) : sb n 0 = n := by unfold sb; omega
theorem ad_zero (n : Nat) (hn : n < 18446744073709551616) : ad 0 n = n := by unfold ad; omega
def difs : Nat → List Nat → List Nat
  | _, [] => []
  | p, n :: l => sb n p :: difs n l
def sums : Nat → List Nat → List Nat
  | _, [] => []
  | p, n :: l => ad p n :: sums (ad p n) l
theorem difs_len (p : Nat) (l : List Nat) : (difs p l).length = l.length := by
  induction l generalizing p with
  | nil => rfl
  | cons n l ih => simp [difs, ih]
theorem sums_len (p : Nat) (l : List Nat) : (sums p l).length = l.length := by
  induction l generalizing p with
  | nil => rfl
  | cons n l ih => simp [sums, ih]
theorem difs_lt (p : Nat) (l : List Nat) : ∀ x ∈ difs p l, x < 18446744073709551616 := by
  induction l generalizing p with
  | nil => simp [difs]
  | cons n l ih =>
    intro x hx
    rcases List.mem_cons.1 hx with rfl | hx
    · exact sb_lt _ _
    · exact ih n x hx
def lst (p : Nat) (l : List Nat) : Nat := l.getLastD p
def tot (p : Nat) (l : List Nat) : Nat := l.foldl ad p
theorem lst_snoc (p : Nat) (l : List Nat) (x : Nat) : lst p (l ++ [x]) = x := by simp [lst]
theorem tot_snoc (p : Nat) (l : List Nat) (x : Nat) : tot p (l ++ [x]) = ad (tot p l) x := by simp [tot]
theorem difs_snoc (p : Nat) (l : List Nat) (x : Nat) : difs p (l ++ [x]) = difs p l ++ [sb x (lst p l)] := by
  induction l generalizing p with
  | nil => rfl
  | cons n l ih =>
    rw [List.cons_append, difs, difs, ih, List.cons_append]
    congr 3
    unfold lst
    cases l <;> simp [List.getLastD]
theorem sums_snoc (p : Nat) (l : List Nat) (x : Nat) : sums p (l ++ [x]) = sums p l ++ [ad (tot p l) x] := by
  induction l generalizing p with
  | nil => rfl
  | cons n l ih => rw [List.cons_append, sums, sums, ih, List.cons_append]; rfl
theorem lst_lt (p : Nat) (l : List Nat) (hp : p < 18446744073709551616) (hl : ∀ x ∈ l, x < 18446744073709551616) : lst p l < 18446744073709551616 := by
  unfold lst
  cases h : l.getLast? with
  | none => rw [List.getLastD_eq_getLast?, h]; exact hp
  | some y => rw [List.getLastD_eq_getLast?, h]; exact hl y (List.mem_of_getLast? h)
theorem tot_lt (p : Nat) (l : List Nat) (hp : p < 18446744073709551616) : tot p l < 18446744073709551616 := by
  rcases List.eq_nil_or_concat l with rfl | ⟨q, x, rfl⟩
  · exact hp
  · rw [List.concat_eq_append, tot_snoc]; exact ad_lt _ _
theorem sums_difs (p : Nat) (l : List Nat) (hp : p < 18446744073709551616) (hl : ∀ x ∈ l, x < 18446744073709551616) : sums p (difs p l) = l := by
  induction l generalizing p with
  | nil => rfl
  | cons n l ih =>
    have hn := hl n (by simp)
    rw [difs, sums, ad_sb n p hn hp, ih n hn (fun x hx => hl x (by simp [hx]))]
@[irreducible] def zig (n : Nat) : Nat := if n < 9223372036854775808 then 2 * n else 2 * (18446744073709551616 - n) - 1
@[irreducible] def zag (n : Nat) : Nat := if n % 2 = 0 then n / 2 else 18446744073709551616 - (n / 2 + 1)
theorem zig_lo {n : Nat} (h : n < 9223372036854775808) : zig n = 2 * n := by unfold zig; rw [if_pos h]
theorem zig_hi {n : Nat} (h : ¬ n < 9223372036854775808) : zig n = 2 * (18446744073709551616 - n) - 1 := by unfold zig; rw [if_neg h]
theorem zag_ev {n : Nat} (h : n % 2 = 0) : zag n = n / 2 := by unfold zag; rw [if_pos h]
theorem zag_od {n : Nat} (h : ¬ n % 2 = 0) : zag n = 18446744073709551616 - (n / 2 + 1) := by unfold zag; rw [if_neg h]
theorem zig_lt (n : Nat) (hn : n < 18446744073709551616) : zig n < 18446744073709551616 := by unfold zig; split <;> omega
theorem zag_lt (n : Nat) (hn : n < 18446744073709551616) : zag n < 18446744073709551616 := by unfold zag; split <;> omega
theorem zag_zig (n : Nat) (hn : n < 18446744073709551616) : zag (zig n) = n := by
  by_cases h : n < 9223372036854775808
  · rw [zig_lo h, zag_ev (by omega)]; omega
  · rw [zig_hi h, zag_od (by omega)]; omega
theorem map_zag_zig (l : List Nat) (hl : ∀ x ∈ l, x < 18446744073709551616) : (l.map zig).map zag = l := by
  rw [List.map_map]
  conv => rhs; rw [← List.map_id l]
  exact List.map_congr_left fun x hx => zag_zig x (hl x hx)
def df (l : List Nat) : List Nat × Nat := if 64 < l.length then ([], 2) else (difs 0 l, 0)
def sm (l : List Nat) : List Nat × Nat := if 64 < l.length then ([], 2) else (sums 0 l, 0)
end Hy.Dlt
end
section
namespace Hy
open Go Go.RowKit
theorem xor_zero64 (n : Nat) (h : n < 18446744073709551616) : bits .xor .u64 (n : Int) 0 = (n : Int) := by
  show IntKind.u64.wrap ((BitVec.ofInt 64 (n : Int) ^^^ BitVec.ofInt 64 0).toNat : Int) = _
  rw [show (BitVec.ofInt 64 0) = 0#64 from rfl, BitVec.xor_zero, BitVec.ofInt_natCast, BitVec.toNat_ofNat, IntKind.wrap_u64]
  omega
theorem xor_ones64 (n : Nat) (h : n < 18446744073709551616) : bits .xor .u64 (n : Int) 18446744073709551615 = ((18446744073709551615 - n : Nat) : Int) := by
  show IntKind.u64.wrap ((BitVec.ofInt 64 (n : Int) ^^^ BitVec.ofInt 64 18446744073709551615).toNat : Int) = _
  rw [show (BitVec.ofInt 64 18446744073709551615) = BitVec.allOnes 64 from rfl, BitVec.xor_allOnes, BitVec.toNat_not, BitVec.ofInt_natCast, BitVec.toNat_ofNat, IntKind.wrap_u64]
  omega
def NumsCap (l : List Nat) (err : Nat) (w : World) (e : Ending) (w' : World) : Prop := ∃ A cap, e = .returned (.tuple #[.slice A l.length cap, .int .i64 err]) ∧ Rd w' A (u64s l) ∧ Ext w w' ∧ l.length ≤ cap
end Hy
namespace Go.Proofs.YthgnipangcmanaaGreat
open Go.RowKit Hy
theorem clo_dif (p x y : Nat) (hy : IntKind.u64.wrap ((x : Int) - (p : Int)) = (y : Int)) (w : World) :
    Calls Tryz.prog 171 #[.int .u64 p, .int .u64 x] w fun e w' => e = .returned (.tuple #[.int .u64 x, .int .u64 y]) ∧ w = w' := by
  go_enter Tryz.func171, Tryz.ntmps171
  go_wp2
  go_returns
  exact ⟨rfl, rfl⟩
theorem clo_sum (p x y : Nat) (hy : IntKind.u64.wrap ((p : Int) + (x : Int)) = (y : Int)) (w : World) :
    Calls Tryz.prog 181 #[.int .u64 p, .int .u64 x] w fun e w' => e = .returned (.tuple #[.int .u64 y, .int .u64 y]) ∧ w = w' := by
  go_enter Tryz.func181, Tryz.ntmps181
  go_wp2
  go_returns
  exact ⟨rfl, rfl⟩
theorem NumsOwn.cap {t : TypeId} {l : List Nat} {err : Nat} {w w' : World} {e : Ending} (h : NumsOwn t l err w e w') : NumsCap l err w e w' := by
  obtain ⟨v, rfl, hown, hx⟩ := h
  obtain ⟨A, cap, rfl, hrd, _, hc, _⟩ := Rd.owned hown
  exact ⟨A, cap, rfl, hrd, hx, hc⟩
set_option maxHeartbeats 1000000 in
theorem along_dif (l : List Nat) (A : Option Addr) (n cap : Nat) (w : World) (hn : l.length = n) (hr : Rd w A (u64s l)) (hl : ∀ x ∈ l, x < 18446744073709551616) (hnl : n ≤ 9223372036854775806) :
    Calls Tryz.prog 170 #[.slice A n cap, .func (.func 171) #[] #[]] w (NumsOwn 34 (Dlt.df l).1 (Dlt.df l).2 w) := by
  have hnI : (n : Int) ≤ 9223372036854775806 := by omega
  by_cases h64 : 64 < n
  · have h64I : (64 : Int) < (n : Int) := by omega
    unfold Dlt.df
    rw [if_pos (by omega)]
    clear hr hn hnl
    go_enter Tryz.func170, Tryz.ntmps170
    go_wp2
    go_returns
    exact ⟨.slice none 0 0, rfl, World.ownsRow_nil _ _ _ _, ext_refl _⟩
  · have h64I : (n : Int) ≤ 64 := by omega
    unfold Dlt.df
    rw [if_neg (by omega)]
    have HR := hid hr
    have HN := hid hn
    have HL := hid hl
    clear hr hn hl hnl h64 hnI
    go_enter Tryz.func170, Tryz.ntmps170
    go_wp2
    go_loopw [6, 7, 9, 10, 16] (fun v t _ _ c wr => ∃ i : Nat, i ≤ n ∧ c = .int .i64 i ∧ t = .int .u64 ((Dlt.lst 0 (l.take i) : Nat) : Int) ∧ Hid (wr.ownsRow w.heap.size 34 1 v i (u64s (Dlt.difs 0 (l.take i)))) ∧ Ext w wr) (fun _ _ _ _ c _ => n - (intOf c).toNat)
    case atStart => exact ⟨0, Nat.zero_le _, rfl, rfl, hid (World.ownsRow_nil _ _ _ _), ext_refl _⟩
    case round =>
      obtain ⟨i, hi, rfl, rfl, HO, X⟩ := hrel
      by_cases hlt : i < n
      · have hltI : (i : Int) < (n : Int) := by omega
        obtain ⟨x, hx⟩ : ∃ x, l[i]? = some x := ⟨_, List.getElem?_eq_getElem (by rw [HN.out]; exact hlt)⟩
        have hxl := HL.out x (List.mem_of_getElem? hx)
        obtain ⟨b1, o1, rfl, l1, c1⟩ := HR.out.num0 (by rw [HN.out]; omega)
        have d0 := (X.cell (p := ⟨b1, o1 + i, none⟩) l1).trans (c1 i x hx)
        have htk : l.take (i + 1) = l.take i ++ [x] := by rw [List.take_add_one, hx]; rfl
        have HS1 := hid (show Dlt.difs 0 (l.take (i + 1)) = Dlt.difs 0 (l.take i) ++ [Dlt.sb x (Dlt.lst 0 (l.take i))] by rw [htk, Dlt.difs_snoc])
        have HS2 := hid (show Dlt.lst 0 (l.take (i + 1)) = x by rw [htk, Dlt.lst_snoc])
        have hp : Dlt.lst 0 (l.take i) < 18446744073709551616 := Dlt.lst_lt 0 _ (by decide) (fun z hz => HL.out z (List.mem_of_mem_take hz))
        have hwx := Dlt.sb_int x _ hp
        have hvl : Dlt.sb x (Dlt.lst 0 (l.take i)) < 18446744073709551616 := Dlt.sb_lt _ _
        have HI64 := hid (show i ≤ 64 by omega)
        generalize Dlt.lst 0 (l.take i) = p at *
        generalize Dlt.difs 0 (l.take i) = L at *
        have hpI : (p : Int) ≤ 18446744073709551615 := by omega
        have hxI : (x : Int) ≤ 18446744073709551615 := by omega
        obtain ⟨y, hy⟩ : ∃ y, y = Dlt.sb x p := ⟨_, rfl⟩
        rw [← hy] at hwx HS1 hvl
        have hyI : (y : Int) ≤ 18446744073709551615 := by omega
        clear c1 hx hxl htk hp hy hvl
        go_wp2_with (first
          | (go_at_call 171; refine (clo_dif p x y hwx _).mono ?_; rintro e w2 ⟨rfl, rfl⟩)
          | (at_builtin; refine wpList_app rfl (.tmp 27) (.tmp 29) rowU64 rfl _ i _ rfl (own_ext HO.out ((ext_refl _).new _)) _ 1 (u64s [y]) rfl (Src.rd Tryz.underlying58 _ 1 1 _ rfl (rd_lit rfl rfl) (u64s_one _) (fun h => by cases h)) (by have := HI64.out; unfold maxLen; omega) (by have := HI64.out; omega) (by have := X.size; simp; omega) ?_; intro v' w3 hown3 hgrow hat hbel; have O3 := hid hown3; have X3 := hid ((X.new _).trans hbel); clear hown3 hgrow hat hbel))
        go_roundw
        case rel => exact ⟨i + 1, by omega, by go_num, by rw [HS2.out], hid (by rw [HS1.out, u64s_app]; exact O3.out), X3.out⟩
        case measure => simp [intOf]; omega
      · obtain rfl : i = n := by omega
        obtain ⟨B, c, rfl, _⟩ := Rd.owned HO.out
        have hti : l.take i = l := List.take_of_length_le (by rw [HN.out]; exact Nat.le_refl _)
        rw [hti] at HO
        have HOW := HO
        clear hti
        go_wp2
        go_returns
        exact ⟨.slice B i c, rfl, by rw [Dlt.difs_len, HN.out]; exact HOW.out, X⟩
set_option maxHeartbeats 1000000 in
theorem along_sum (l : List Nat) (A : Option Addr) (n cap : Nat) (w : World) (hn : l.length = n) (hr : Rd w A (u64s l)) (hl : ∀ x ∈ l, x < 18446744073709551616) (hnl : n ≤ 9223372036854775806) :
    Calls Tryz.prog 170 #[.slice A n cap, .func (.func 181) #[] #[]] w (NumsOwn 34 (Dlt.sm l).1 (Dlt.sm l).2 w) := by
  have hnI : (n : Int) ≤ 9223372036854775806 := by omega
  by_cases h64 : 64 < n
  · have h64I : (64 : Int) < (n : Int) := by omega
    unfold Dlt.sm
    rw [if_pos (by omega)]
    clear hr hn hnl
    go_enter Tryz.func170, Tryz.ntmps170
    go_wp2
    go_returns
    exact ⟨.slice none 0 0, rfl, World.ownsRow_nil _ _ _ _, ext_refl _⟩
  · have h64I : (n : Int) ≤ 64 := by omega
    unfold Dlt.sm
    rw [if_neg (by omega)]
    have HR := hid hr
    have HN := hid hn
    have HL := hid hl
    clear hr hn hl hnl h64 hnI
    go_enter Tryz.func170, Tryz.ntmps170
    go_wp2
    go_loopw [6, 7, 9, 10, 16] (fun v t _ _ c wr => ∃ i : Nat, i ≤ n ∧ c = .int .i64 i ∧ t = .int .u64 ((Dlt.tot 0 (l.take i) : Nat) : Int) ∧ Hid (wr.ownsRow w.heap.size 34 1 v i (u64s (Dlt.sums 0 (l.take i)))) ∧ Ext w wr) (fun _ _ _ _ c _ => n - (intOf c).toNat)
    case atStart => exact ⟨0, Nat.zero_le _, rfl, rfl, hid (World.ownsRow_nil _ _ _ _), ext_refl _⟩
    case round =>
      obtain ⟨i, hi, rfl, rfl, HO, X⟩ := hrel
      by_cases hlt : i < n
      · have hltI : (i : Int) < (n : Int) := by omega
        obtain ⟨x, hx⟩ : ∃ x, l[i]? = some x := ⟨_, List.getElem?_eq_getElem (by rw [HN.out]; exact hlt)⟩
        have hxl := HL.out x (List.mem_of_getElem? hx)
        obtain ⟨b1, o1, rfl, l1, c1⟩ := HR.out.num0 (by rw [HN.out]; omega)
        have d0 := (X.cell (p := ⟨b1, o1 + i, none⟩) l1).trans (c1 i x hx)
        have htk : l.take (i + 1) = l.take i ++ [x] := by rw [List.take_add_one, hx]; rfl
        have HS1 := hid (show Dlt.sums 0 (l.take (i + 1)) = Dlt.sums 0 (l.take i) ++ [Dlt.ad (Dlt.tot 0 (l.take i)) x] by rw [htk, Dlt.sums_snoc])
        have HS2 := hid (show Dlt.tot 0 (l.take (i + 1)) = Dlt.ad (Dlt.tot 0 (l.take i)) x by rw [htk, Dlt.tot_snoc])
        have hp : Dlt.tot 0 (l.take i) < 18446744073709551616 := Dlt.tot_lt 0 _ (by decide)
        have hwx := Dlt.ad_int (Dlt.tot 0 (l.take i)) x
        have hvl : Dlt.ad (Dlt.tot 0 (l.take i)) x < 18446744073709551616 := Dlt.ad_lt _ _
        have HI64 := hid (show i ≤ 64 by omega)
        generalize Dlt.tot 0 (l.take i) = p at *
        generalize Dlt.sums 0 (l.take i) = L at *
        have hpI : (p : Int) ≤ 18446744073709551615 := by omega
        have hxI : (x : Int) ≤ 18446744073709551615 := by omega
        obtain ⟨y, hy⟩ : ∃ y, y = Dlt.ad p x := ⟨_, rfl⟩
        rw [← hy] at hwx HS1 hvl HS2
        have hyI : (y : Int) ≤ 18446744073709551615 := by omega
        clear c1 hx hxl htk hp hy hvl
        go_wp2_with (first
          | (go_at_call 181; refine (clo_sum p x y hwx _).mono ?_; rintro e w2 ⟨rfl, rfl⟩)
          | (at_builtin; refine wpList_app rfl (.tmp 27) (.tmp 29) rowU64 rfl _ i _ rfl (own_ext HO.out ((ext_refl _).new _)) _ 1 (u64s [y]) rfl (Src.rd Tryz.underlying58 _ 1 1 _ rfl (rd_lit rfl rfl) (u64s_one _) (fun h => by cases h)) (by have := HI64.out; unfold maxLen; omega) (by have := HI64.out; omega) (by have := X.size; simp; omega) ?_; intro v' w3 hown3 hgrow hat hbel; have O3 := hid hown3; have X3 := hid ((X.new _).trans hbel); clear hown3 hgrow hat hbel))
        go_roundw
        case rel => exact ⟨i + 1, by omega, by go_num, by rw [HS2.out], hid (by rw [HS1.out, u64s_app]; exact O3.out), X3.out⟩
        case measure => simp [intOf]; omega
      · obtain rfl : i = n := by omega
        obtain ⟨B, c, rfl, _⟩ := Rd.owned HO.out
        have hti : l.take i = l := List.take_of_length_le (by rw [HN.out]; exact Nat.le_refl _)
        rw [hti] at HO
        have HOW := HO
        clear hti
        go_wp2
        go_returns
        exact ⟨.slice B i c, rfl, by rw [Dlt.sums_len, HN.out]; exact HOW.out, X⟩
theorem diffs_own (l : List Nat) (A : Option Addr) (n cap : Nat) (w : World) (hn : l.length = n) (hr : Rd w A (u64s l)) (hl : ∀ x ∈ l, x < 18446744073709551616) (hnl : n ≤ 9223372036854775806) :
    Calls Tryz.prog 139 #[.slice A n cap] w (NumsOwn 34 (Dlt.df l).1 (Dlt.df l).2 w) := by
  have H := hid (along_dif l A n cap w hn hr hl hnl)
  obtain ⟨L, er, hd⟩ : ∃ L er, Dlt.df l = (L, er) := ⟨_, _, rfl⟩
  rw [hd] at H ⊢
  clear hd hr hl hn hnl
  go_enter Tryz.func139, Tryz.ntmps139
  go_wp2_with fail
  refine Calls.mono H.out ?_
  rintro e w1 ⟨v, rfl, hown, hx⟩
  obtain ⟨B, c, rfl, _⟩ := Rd.owned hown
  have HOW := hid hown
  have HX := hid hx
  clear hown hx
  go_wp2
  go_returns
  exact ⟨_, rfl, HOW.out, HX.out⟩
theorem sums_own (l : List Nat) (A : Option Addr) (n cap : Nat) (w : World) (hn : l.length = n) (hr : Rd w A (u64s l)) (hl : ∀ x ∈ l, x < 18446744073709551616) (hnl : n ≤ 9223372036854775806) :
    Calls Tryz.prog 157 #[.slice A n cap] w (NumsOwn 34 (Dlt.sm l).1 (Dlt.sm l).2 w) := by
  have H := hid (along_sum l A n cap w hn hr hl hnl)
  obtain ⟨L, er, hd⟩ : ∃ L er, Dlt.sm l = (L, er) := ⟨_, _, rfl⟩
  rw [hd] at H ⊢
  clear hd hr hl hn hnl
  go_enter Tryz.func157, Tryz.ntmps157
  go_wp2_with fail
  refine Calls.mono H.out ?_
  rintro e w1 ⟨v, rfl, hown, hx⟩
  obtain ⟨B, c, rfl, _⟩ := Rd.owned hown
  have HOW := hid hown
  have HX := hid hx
  clear hown hx
  go_wp2
  go_returns
  exact ⟨_, rfl, HOW.out, HX.out⟩
theorem diffs_any (l : List Nat) (A : Option Addr) (n cap : Nat) (w : World) (hn : l.length = n) (hr : Rd w A (u64s l)) (hl : ∀ x ∈ l, x < 18446744073709551616) (hnl : n ≤ 9223372036854775806) :
    Calls Tryz.prog 139 #[.slice A n cap] w (NumsCap (Dlt.df l).1 (Dlt.df l).2 w) :=
  Calls.mono (diffs_own l A n cap w hn hr hl hnl) fun _ _ h => NumsOwn.cap h
theorem zig_val (n : Nat) (hn : n < 18446744073709551616) : bits .xor .u64 (IntKind.u64.wrap ((n : Int) * 2)) (IntKind.u64.wrap (wrap64 (n : Int) / 9223372036854775808)) = ((Dlt.zig n : Nat) : Int) := by
  by_cases h : n < 9223372036854775808
  · have e1 : wrap64 (n : Int) = (n : Int) := by unfold wrap64; omega
    have e2 : (n : Int) / 9223372036854775808 = 0 := by omega
    have e3 : IntKind.u64.wrap ((n : Int) * 2) = ((2 * n : Nat) : Int) := by rw [IntKind.wrap_u64]; omega
    have e4 : IntKind.u64.wrap 0 = 0 := by rw [IntKind.wrap_u64]; rfl
    rw [e1, e2, e3, e4, xor_zero64 _ (by omega), Dlt.zig_lo h]
  · have e1 : wrap64 (n : Int) = (n : Int) - 18446744073709551616 := by unfold wrap64; omega
    have e2 : ((n : Int) - 18446744073709551616) / 9223372036854775808 = -1 := by omega
    have e3 : IntKind.u64.wrap ((n : Int) * 2) = ((2 * n - 18446744073709551616 : Nat) : Int) := by rw [IntKind.wrap_u64]; omega
    have e4 : IntKind.u64.wrap (-1) = 18446744073709551615 := by rw [IntKind.wrap_u64]; rfl
    rw [e1, e2, e3, e4, xor_ones64 _ (by omega), Dlt.zig_hi h]
    omega
set_option maxHeartbeats 400000 in
theorem zig_any (n : Nat) (w : World) (hn : n < 18446744073709551616) : Calls Tryz.prog 141 #[.int .u64 n] w fun e w' => e = .returned (.int .u64 (Dlt.zig n : Nat)) ∧ w = w' := by
  have hv := hid (zig_val n hn)
  clear hn
  go_enter Tryz.func141, Tryz.ntmps141
  go_wp2
  go_returns
  exact ⟨by rw [← hv.out]; rfl, rfl⟩
theorem zag_val (n : Nat) (hn : n < 18446744073709551616) : bits .xor .u64 ((n : Int) / 2) (IntKind.u64.wrap (-bits .and .u64 (n : Int) 1)) = ((Dlt.zag n : Nat) : Int) := by
  have hm := Bits.and_mask n 1 hn (by decide)
  rw [show ((2 ^ 1 : Nat) - 1 : Int) = 1 from rfl, Nat.pow_one] at hm
  have hd : (n : Int) / 2 = ((n / 2 : Nat) : Int) := by omega
  rw [hm, hd]
  by_cases h : n % 2 = 0
  · have e4 : IntKind.u64.wrap (-((0 : Nat) : Int)) = 0 := by rw [IntKind.wrap_u64]; rfl
    rw [h, e4, xor_zero64 _ (by omega), Dlt.zag_ev h]
  · have h1 : n % 2 = 1 := by omega
    have e4 : IntKind.u64.wrap (-((1 : Nat) : Int)) = 18446744073709551615 := by rw [IntKind.wrap_u64]; rfl
    rw [h1, e4, xor_ones64 _ (by omega), Dlt.zag_od h]
    omega
set_option maxHeartbeats 400000 in
theorem zag_any (n : Nat) (w : World) (hn : n < 18446744073709551616) : Calls Tryz.prog 180 #[.int .u64 n] w fun e w' => e = .returned (.int .u64 (Dlt.zag n : Nat)) ∧ w = w' := by
  have hv := hid (zag_val n hn)
  clear hn
  go_enter Tryz.func180, Tryz.ntmps180
  go_wp2
  go_returns
  exact ⟨by rw [← hv.out]; rfl, rfl⟩
set_option maxHeartbeats 1000000 in
theorem all_zig (l : List Nat) (A : Option Addr) (n cap : Nat) (w : World) (hn : l.length = n) (hr : Rd w A (u64s l)) (hl : ∀ x ∈ l, x < 18446744073709551616) (hnl : n ≤ 64) :
    Calls Tryz.prog 140 #[.slice A n cap, .func (.func 141) #[] #[]] w fun e w' => ∃ B c, e = .returned (.slice B n c) ∧ Rd w' B (u64s (l.map Dlt.zig)) ∧ Ext w w' ∧ n ≤ c := by
  have hnI : (n : Int) ≤ 64 := by omega
  have HR := hid hr
  have HN := hid hn
  have HL := hid hl
  have HNL := hid hnl
  clear hr hn hl hnl
  go_enter Tryz.func140, Tryz.ntmps140
  go_wp2
  go_loopw [5, 7, 10] (fun v _ c wr => ∃ i : Nat, i ≤ n ∧ c = .int .i64 i ∧ Hid (wr.ownsRow w.heap.size 34 1 v i (u64s ((l.take i).map Dlt.zig))) ∧ Ext w wr) (fun _ _ c _ => n - (intOf c).toNat)
  case atStart => exact ⟨0, Nat.zero_le _, rfl, hid (World.ownsRow_nil _ _ _ _), ext_refl _⟩
  case round =>
    obtain ⟨i, hi, rfl, HO, X⟩ := hrel
    by_cases hlt : i < n
    · have hltI : (i : Int) < (n : Int) := by omega
      obtain ⟨x, hx⟩ : ∃ x, l[i]? = some x := ⟨_, List.getElem?_eq_getElem (by rw [HN.out]; exact hlt)⟩
      have hxl := HL.out x (List.mem_of_getElem? hx)
      obtain ⟨b1, o1, rfl, l1, c1⟩ := HR.out.num0 (by rw [HN.out]; omega)
      have d0 := (X.cell (p := ⟨b1, o1 + i, none⟩) l1).trans (c1 i x hx)
      have HS1 := hid (show (l.take (i + 1)).map Dlt.zig = (l.take i).map Dlt.zig ++ [Dlt.zig x] by rw [List.take_add_one, hx]; simp)
      have CZ := hid (fun wx => zig_any x wx hxl)
      have hzl := Dlt.zig_lt x hxl
      have HI64 := hid (show i ≤ 64 by have := HNL.out; omega)
      generalize (l.take i).map Dlt.zig = L at *
      generalize Dlt.zig x = y at *
      have hxI : (x : Int) ≤ 18446744073709551615 := by omega
      have hyI : (y : Int) ≤ 18446744073709551615 := by omega
      clear c1 hx hxl hzl
      go_wp2_with (first
        | (go_at_call 141; refine (CZ.out _).mono ?_; rintro e w2 ⟨rfl, rfl⟩)
        | (at_builtin; refine wpList_app rfl (.tmp 14) (.tmp 18) rowU64 rfl _ i _ rfl (own_ext HO.out ((ext_refl _).new _)) _ 1 (u64s [y]) rfl (Src.rd Tryz.underlying58 _ 1 1 _ rfl (rd_lit rfl rfl) (u64s_one _) (fun h => by cases h)) (by have := HI64.out; unfold maxLen; omega) (by have := HI64.out; omega) (by have := X.size; simp; omega) ?_; intro v' w3 hown3 hgrow hat hbel; have O3 := hid hown3; have X3 := hid ((X.new _).trans hbel); clear hown3 hgrow hat hbel))
      go_roundw
      case rel => exact ⟨i + 1, by omega, by go_num, hid (by rw [HS1.out, u64s_app]; exact O3.out), X3.out⟩
      case measure => simp [intOf]; omega
    · obtain rfl : i = n := by omega
      obtain ⟨B, c, rfl, hrd, _, hcc, _⟩ := Rd.owned HO.out
      have HCC := hid hcc
      have hti : l.take i = l := List.take_of_length_le (by rw [HN.out]; exact Nat.le_refl _)
      rw [hti] at hrd
      have HRD := hid hrd
      clear hrd hti hcc
      go_wp2
      go_returns
      exact ⟨B, c, rfl, HRD.out, X, HCC.out⟩
set_option maxHeartbeats 1000000 in
theorem all_zag (l : List Nat) (A : Option Addr) (n cap : Nat) (w : World) (hn : l.length = n) (hr : Rd w A (u64s l)) (hl : ∀ x ∈ l, x < 18446744073709551616) (hnl : n ≤ 64) :
    Calls Tryz.prog 140 #[.slice A n cap, .func (.func 180) #[] #[]] w fun e w' => ∃ B c, e = .returned (.slice B n c) ∧ Rd w' B (u64s (l.map Dlt.zag)) ∧ Ext w w' ∧ n ≤ c := by
  have hnI : (n : Int) ≤ 64 := by omega
  have HR := hid hr
  have HN := hid hn
  have HL := hid hl
  have HNL := hid hnl
  clear hr hn hl hnl
  go_enter Tryz.func140, Tryz.ntmps140
  go_wp2
  go_loopw [5, 7, 10] (fun v _ c wr => ∃ i : Nat, i ≤ n ∧ c = .int .i64 i ∧ Hid (wr.ownsRow w.heap.size 34 1 v i (u64s ((l.take i).map Dlt.zag))) ∧ Ext w wr) (fun _ _ c _ => n - (intOf c).toNat)
  case atStart => exact ⟨0, Nat.zero_le _, rfl, hid (World.ownsRow_nil _ _ _ _), ext_refl _⟩
  case round =>
    obtain ⟨i, hi, rfl, HO, X⟩ := hrel
    by_cases hlt : i < n
    · have hltI : (i : Int) < (n : Int) := by omega
      obtain ⟨x, hx⟩ : ∃ x, l[i]? = some x := ⟨_, List.getElem?_eq_getElem (by rw [HN.out]; exact hlt)⟩
      have hxl := HL.out x (List.mem_of_getElem? hx)
      obtain ⟨b1, o1, rfl, l1, c1⟩ := HR.out.num0 (by rw [HN.out]; omega)
      have d0 := (X.cell (p := ⟨b1, o1 + i, none⟩) l1).trans (c1 i x hx)
      have HS1 := hid (show (l.take (i + 1)).map Dlt.zag = (l.take i).map Dlt.zag ++ [Dlt.zag x] by rw [List.take_add_one, hx]; simp)
      have CZ := hid (fun wx => zag_any x wx hxl)
      have hzl := Dlt.zag_lt x hxl
      have HI64 := hid (show i ≤ 64 by have := HNL.out; omega)
      generalize (l.take i).map Dlt.zag = L at *
      generalize Dlt.zag x = y at *
      have hxI : (x : Int) ≤ 18446744073709551615 := by omega
      have hyI : (y : Int) ≤ 18446744073709551615 := by omega
      clear c1 hx hxl hzl
      go_wp2_with (first
        | (go_at_call 180; refine (CZ.out _).mono ?_; rintro e w2 ⟨rfl, rfl⟩)
        | (at_builtin; refine wpList_app rfl (.tmp 14) (.tmp 18) rowU64 rfl _ i _ rfl (own_ext HO.out ((ext_refl _).new _)) _ 1 (u64s [y]) rfl (Src.rd Tryz.underlying58 _ 1 1 _ rfl (rd_lit rfl rfl) (u64s_one _) (fun h => by cases h)) (by have := HI64.out; unfold maxLen; omega) (by have := HI64.out; omega) (by have := X.size; simp; omega) ?_; intro v' w3 hown3 hgrow hat hbel; have O3 := hid hown3; have X3 := hid ((X.new _).trans hbel); clear hown3 hgrow hat hbel))
      go_roundw
      case rel => exact ⟨i + 1, by omega, by go_num, hid (by rw [HS1.out, u64s_app]; exact O3.out), X3.out⟩
      case measure => simp [intOf]; omega
    · obtain rfl : i = n := by omega
      obtain ⟨B, c, rfl, hrd, _, hcc, _⟩ := Rd.owned HO.out
      have HCC := hid hcc
      have hti : l.take i = l := List.take_of_length_le (by rw [HN.out]; exact Nat.le_refl _)
      rw [hti] at hrd
      have HRD := hid hrd
      clear hrd hti hcc
      go_wp2
      go_returns
      exact ⟨B, c, rfl, HRD.out, X, HCC.out⟩
end Go.Proofs.YthgnipangcmanaaGreat
end
section
namespace Hy.Dlt
open Go
def zs (l : List Nat) : List Nat := match l with
  | [] => []
  | x :: r => (difs x r).map zig
theorem zs_len (l : List Nat) : (zs l).length = l.length - 1 := by cases l <;> simp [zs, difs_len]
theorem zs_lt (l : List Nat) : ∀ x ∈ zs l, x < 18446744073709551616 := by
  cases l with
  | nil => simp [zs]
  | cons x r =>
    intro y hy
    obtain ⟨z, hz, rfl⟩ := List.mem_map.1 hy
    exact zig_lt z (difs_lt x r z hz)
theorem difs_tail (l : List Nat) : (difs 0 l).drop 1 = match l with | [] => [] | x :: r => difs x r := by cases l <;> simp [difs]
@[irreducible] def bys (l : List Nat) : List UInt8 := if l = [] then [] else Vary.wr (l.headD 0) ++ [UInt8.ofNat (Bits.width (zs l))] ++ Hyb.raw (zs l) (Bits.width (zs l))
theorem bys_nil : bys [] = [] := by unfold bys; rfl
theorem bys_cons (x : Nat) (r : List Nat) : bys (x :: r) = Vary.wr x ++ [UInt8.ofNat (Bits.width (zs (x :: r)))] ++ Hyb.raw (zs (x :: r)) (Bits.width (zs (x :: r))) := by unfold bys; rw [if_neg (by simp)]; rfl
def wrt (l : List Nat) : List UInt8 × Nat := if 64 < l.length then ([], 2) else (bys l, 0)
end Hy.Dlt
namespace Go.Proofs.YthgnipangcmanaaGreat
open Go.RowKit Hy
set_option maxRecDepth 100000 in
set_option maxHeartbeats 3200000 in
theorem dWrite_any (l : List Nat) (A : Option Addr) (n cap : Nat) (w : World) (hn : l.length = n) (hr : Rd w A (u64s l)) (hcap : n ≤ cap) (hl : ∀ x ∈ l, x < 18446744073709551616) (hnl : n ≤ 9223372036854775806) :
    Calls Tryz.prog 102 #[.slice A n cap] w fun e w' => e = .returned (.tuple #[.string ⟨(Dlt.wrt l).1.toArray⟩, .int .i64 (Dlt.wrt l).2]) ∧ Ext w w' := by
  have H1 := hid (diffs_any l A n cap w hn hr hl hnl)
  unfold Dlt.df at H1
  unfold Dlt.wrt
  have hnI : (n : Int) ≤ 9223372036854775806 := by omega
  by_cases h64 : 64 < n
  · rw [if_pos (by omega)] at H1 ⊢
    clear hr hl hn hcap hnl h64
    go_enter Tryz.func102, Tryz.ntmps102
    go_wp2_with fail
    refine Calls.mono H1.out ?_
    rintro e w1 ⟨B, c, rfl, _, hx, _⟩
    have HX := hid hx
    clear hx
    go_wp2
    go_returns
    exact ⟨rfl, HX.out⟩
  · rw [if_neg (by omega)] at H1 ⊢
    cases l with
    | nil =>
      obtain rfl : n = 0 := by rw [← hn]; rfl
      rw [Dlt.bys_nil]
      clear hr hl hn hcap hnl h64 hnI
      go_enter Tryz.func102, Tryz.ntmps102
      go_wp2_with fail
      refine Calls.mono H1.out ?_
      rintro e w1 ⟨B, c, rfl, _, hx, _⟩
      have HX := hid hx
      clear hx
      go_wp2
      go_returns
      exact ⟨rfl, HX.out⟩
    | cons x r =>
      obtain ⟨m, rfl⟩ : ∃ m, n = m + 1 := ⟨r.length, by rw [← hn]; rfl⟩
      have hrm : r.length = m := by simpa using hn
      have hz : (Dlt.zs (x :: r)).length = m := by rw [Dlt.zs_len, hn]; rfl
      have hzl := Dlt.zs_lt (x :: r)
      have hdl : (Dlt.difs x r).length = m := by rw [Dlt.difs_len, hrm]
      have hdlt := Dlt.difs_lt x r
      have hmap : (Dlt.difs x r).map Dlt.zig = Dlt.zs (x :: r) := rfl
      rw [Dlt.bys_cons]
      have hlen0 : (Dlt.difs 0 (x :: r)).length = m + 1 := by rw [Dlt.difs_len, hn]
      have hdr : (Dlt.difs 0 (x :: r)).drop 1 = Dlt.difs x r := rfl
      obtain ⟨D, hD⟩ : ∃ D, D = Dlt.difs 0 (x :: r) := ⟨_, rfl⟩
      rw [← hD] at H1 hlen0 hdr
      obtain ⟨E, hE⟩ : ∃ E, E = Dlt.difs x r := ⟨_, rfl⟩
      rw [← hE] at hdl hdlt hmap hdr
      obtain ⟨Z, hZ⟩ : ∃ Z, Z = Dlt.zs (x :: r) := ⟨_, rfl⟩
      rw [← hZ] at hz hzl hmap ⊢
      have hw64 := Bits.width_le64 Z hzl
      have hzw := (Bits.width_le_iff Z (Bits.width Z) hzl hw64).1 (Nat.le_refl _)
      obtain ⟨wb, hwb⟩ : ∃ wb, wb = Bits.width Z := ⟨_, rfl⟩
      have HALL := hid (fun (B : Option Addr) (c : Nat) (wx : World) (h : Rd wx B (u64s E)) => all_zig E B m c wx hdl h hdlt (by omega))
      rw [hmap] at HALL
      have HWID := hid (fun (B : Option Addr) (c : Nat) (wx : World) (h : Rd wx B (u64s Z)) => width_any Z B m c wx hz h hzl (by omega))
      have HRW := hid (fun (B : Option Addr) (c : Nat) (wx : World) (h : Rd wx B (u64s Z)) (hc : m ≤ c) => hyRaw_any Z B m c (Bits.width Z) wx hz h hc (by omega) hzw hw64)
      have HV := hid (fun wx => write_any x wx (hl x (by simp)))
      have hlen := Hyb.raw_len Z (Bits.width Z) hw64 (by omega)
      have hsz : Bits.size Z.length (Bits.width Z) ≤ 512 := by unfold Bits.size; have := Nat.mul_le_mul (show Z.length ≤ 64 by omega) hw64; omega
      rw [← hwb] at HWID HRW hw64 hlen hsz ⊢
      obtain ⟨b1, o1, rfl, l1, c1⟩ := hr.num0 (by simp)
      have d0 := c1 0 x rfl
      rw [Nat.add_zero] at d0
      obtain ⟨X1b, hX1b⟩ : ∃ S : ByteArray, S = ⟨(Vary.wr x).toArray⟩ := ⟨_, rfl⟩
      obtain ⟨X2b, hX2b⟩ : ∃ S : ByteArray, S = ⟨[UInt8.ofNat wb].toArray⟩ := ⟨_, rfl⟩
      obtain ⟨X3b, hX3b⟩ : ∃ S : ByteArray, S = ⟨(Hyb.raw Z wb).toArray⟩ := ⟨_, rfl⟩
      have hz1 : X1b.size ≤ 9 := by rw [hX1b, str_size, Vary.wr_len]; have := Vary.beh_le8 x; omega
      have hz2 : X2b.size = 1 := by rw [hX2b]; rfl
      have hz3 : X3b.size ≤ 1000 := by rw [hX3b, str_size]; omega
      have HVV := hid (show X1b ++ X2b ++ X3b = ⟨(Vary.wr x ++ [UInt8.ofNat wb] ++ Hyb.raw Z wb).toArray⟩ by rw [hX1b, hX2b, hX3b, str_app, str_app])
      have HBB := hid hX2b
      rw [← hX1b] at HV
      rw [← hX3b] at HRW
      have HWB := hid (show (#[Value.int .u8 (wb : Int)] : Array Value).toList = u8s [UInt8.ofNat wb] by simp [u8s]; omega)
      have hwI : (wb : Int) ≤ 64 := by omega
      have hmI : (m : Int) ≤ 63 := by omega
      have hwu : IntKind.u8.wrap (wb : Int) = (wb : Int) := by rw [IntKind.wrap_u8]; omega
      have HSL := fun (B : Option Addr) (c : Nat) (wx : World) => sl_from (P := Tryz.prog) (t := 58) (e := 34) (m := 1) Tryz.underlying58 (by kernel_rfl) B (m + 1) c .i64 1 (by omega) wx
      have h11 : ((1 : Nat) : Int) = 1 := rfl
      simp only [Nat.add_sub_cancel, h11] at HSL
      have HFR := hid (fun (B : Option Addr) (c : Nat) (wx : World) (h : Rd wx B (u64s D)) (hc : D.length ≤ c) => h.u64from 1 c hc)
      rw [hdr, hlen0] at HFR
      have HCAP := hid (show D.length = m + 1 from hlen0)
      clear hn hrm hz hzl hdl hdlt hmap hlen0 hdr hD hE hZ hzw hwb hlen hsz c1 hX1b hX2b hX3b hl hnl h64 hr hcap hnI
      go_enter Tryz.func102, Tryz.ntmps102
      go_wp2_with fail
      refine Calls.mono H1.out ?_
      rintro e w1 ⟨B, c, rfl, hrd, hx, hcc⟩
      rw [HCAP.out] at hcc
      have HSB := HSL B c
      have HRD := hid (HFR.out B c w1 hrd hcc)
      have HXA := hid hx
      obtain ⟨R2, hR2⟩ : ∃ R2, R2 = slF B 1 c 1 := ⟨_, rfl⟩
      rw [← hR2] at HSB HRD
      rw [HCAP.out]
      clear hrd hx hcc hR2 HSL HFR
      go_wp2_with fail
      refine Calls.mono (HALL.out _ _ _ HRD.out) ?_
      rintro e w2 ⟨B2, c2, rfl, hrz, hx, hcz⟩
      have HRZ := hid hrz
      have HX1 := hid (HXA.out.then hx)
      have HCZ := hid hcz
      clear hrz hx hcz HSB
      go_wp2_with fail
      refine Calls.mono (HWID.out _ _ _ HRZ.out) ?_
      rintro e _ ⟨rfl, rfl⟩
      have HRAW := hid (fun wx (hx : Ext w2 wx) => HRW.out B2 c2 wx (HRZ.out.keep hx) HCZ.out)
      have d0 := ext_cell HX1.out d0
      have d0r := cell_regrown d0
      go_wp2
      refine wp_region_tree (.one 0 true (.one 1 true (.one 2 true (.one 4 true (.one 5 true (.one 9 true (.one 10 true (.two 3 6 (.two 11 6 (.one 6 false (.one 7 false (.one 8 true (.one 12 true (.one 13 true (.one 14 true .nil)))))) (.two 11 7 (.one 7 false (.one 8 true (.one 12 true (.one 13 true (.one 14 true .nil))))) (.one 8 true (.one 11 false (.one 12 true (.one 13 true (.one 14 true .nil))))))) (.two 3 7 (.two 11 7 (.one 7 false (.one 8 true (.one 12 true (.one 13 true (.one 14 true .nil))))) (.one 8 true (.one 11 false (.one 12 true (.one 13 true (.one 14 true .nil)))))) (.one 3 false (.one 8 true (.one 11 false (.one 12 true (.one 13 true (.one 14 true .nil))))))))))))))) (by kernel_rfl) (by kernel_rfl) (fun _ _ _ _ _ h => h) (by kernel_rfl) (by rfl) ?_
      simp only [fillT, List.getD_cons_zero, List.getD_cons_succ]
      have Y0 : Ext w2 w2.drew := (ext_refl w2).draw
      repeat (refine wpTO_val (by rfl) ?_; intro K hK; go_big_quiet_op; go_big_quiet_on)
      refine wpTO_two ?_ ?_
      · refine wpTO_do (by rfl) ?_
        intro K hK
        go_simp
        refine Calls.mono (HV.out _) ?_
        rintro e y1 ⟨rfl, hx⟩
        have Y1 := Ext.then Y0 hx
        refine hK _ _ Y1 ?_
        clear K hK hx
        refine wpTO_two ?_ ?_
        · refine wpTO_do (by rfl) ?_
          intro K hK
          go_simp
          refine Calls.mono (HRAW.out _ Y1) ?_
          rintro e y2 ⟨rfl, hx⟩
          have Y2 := Ext.then Y1 hx
          refine hK _ _ Y2 ?_
          clear K hK hx
          refine wpTO_do (by rfl) ?_
          intro K hK
          go_simp
          have HRB := rd_lit (w := y2) (g := (y2 : World).heap.size) (C := #[.int .u8 (wb : Int)]) (e := 5) (fz := (0, 0)) (cs := u8s [UInt8.ofNat wb]) rfl HWB.out
          have Y3 := Ext.new Y2 (.cells #[.int .u8 (wb : Int)] 5)
          refine hK _ _ Y3 ?_
          clear K hK
          refine wpTO_do (by rfl) ?_
          intro K hK
          have hcv := run_str_rd (P := Tryz.prog) (src := 42) (dst := 9) (e := 5) Tryz.underlying42 Tryz.underlying5 Tryz.underlying9 _ 1 1 [UInt8.ofNat wb] rfl HRB (fun h => by cases h)
          rw [← HBB.out] at hcv
          go_simp
          refine hK _ _ Y3 ?_
          clear K hK hcv
          repeat (refine wpTO_val (by rfl) ?_; intro K hK; go_big_quiet_op; go_big_quiet_on)
          refine wpTO_nil ?_
          have XE := hid (HX1.out.then Y3)
          clear d0r
          go_wp2
          go_returns
          exact ⟨by rw [← HVV.out]; rfl, XE.out⟩
        · refine wpTO_do (by rfl) ?_
          intro K hK
          go_simp
          have HRB := rd_lit (w := y1) (g := (y1 : World).heap.size) (C := #[.int .u8 (wb : Int)]) (e := 5) (fz := (0, 0)) (cs := u8s [UInt8.ofNat wb]) rfl HWB.out
          have Y4 := Ext.new Y1 (.cells #[.int .u8 (wb : Int)] 5)
          refine hK _ _ Y4 ?_
          clear K hK
          refine wpTO_two ?_ ?_
          · refine wpTO_do (by rfl) ?_
            intro K hK
            go_simp
            refine Calls.mono (HRAW.out _ Y4) ?_
            rintro e y5 ⟨rfl, hx⟩
            have Y5 := Ext.then Y4 hx
            replace HRB := HRB.keep hx
            refine hK _ _ Y5 ?_
            clear K hK hx
            refine wpTO_do (by rfl) ?_
            intro K hK
            have hcv := run_str_rd (P := Tryz.prog) (src := 42) (dst := 9) (e := 5) Tryz.underlying42 Tryz.underlying5 Tryz.underlying9 _ 1 1 [UInt8.ofNat wb] rfl HRB (fun h => by cases h)
            rw [← HBB.out] at hcv
            go_simp
            refine hK _ _ Y5 ?_
            clear K hK hcv
            repeat (refine wpTO_val (by rfl) ?_; intro K hK; go_big_quiet_op; go_big_quiet_on)
            refine wpTO_nil ?_
            have XE := hid (HX1.out.then Y5)
            clear d0r
            go_wp2
            go_returns
            exact ⟨by rw [← HVV.out]; rfl, XE.out⟩
          · refine wpTO_do (by rfl) ?_
            intro K hK
            have hcv := run_str_rd (P := Tryz.prog) (src := 42) (dst := 9) (e := 5) Tryz.underlying42 Tryz.underlying5 Tryz.underlying9 _ 1 1 [UInt8.ofNat wb] rfl HRB (fun h => by cases h)
            rw [← HBB.out] at hcv
            go_simp
            refine hK _ _ Y4 ?_
            clear K hK hcv
            repeat (refine wpTO_val (by rfl) ?_; intro K hK; go_big_quiet_op; go_big_quiet_on)
            refine wpTO_do (by rfl) ?_
            intro K hK
            go_simp
            refine Calls.mono (HRAW.out _ Y4) ?_
            rintro e y6 ⟨rfl, hx⟩
            have Y6 := Ext.then Y4 hx
            replace HRB := HRB.keep hx
            refine hK _ _ Y6 ?_
            clear K hK hx
            repeat (refine wpTO_val (by rfl) ?_; intro K hK; go_big_quiet_op; go_big_quiet_on)
            refine wpTO_nil ?_
            have XE := hid (HX1.out.then Y6)
            clear d0r
            go_wp2
            go_returns
            exact ⟨by rw [← HVV.out]; rfl, XE.out⟩
      · refine wpTO_do (by rfl) ?_
        intro K hK
        go_simp
        have HRB := rd_lit (w := w2.drew) (g := (w2 : World).heap.size) (C := #[.int .u8 (wb : Int)]) (e := 5) (fz := (0, 0)) (cs := u8s [UInt8.ofNat wb]) rfl HWB.out
        have Y7 := Ext.new Y0 (.cells #[.int .u8 (wb : Int)] 5)
        refine hK _ _ Y7 ?_
        clear K hK
        refine wpTO_two ?_ ?_
        · refine wpTO_do (by rfl) ?_
          intro K hK
          go_simp
          refine Calls.mono (HV.out _) ?_
          rintro e y8 ⟨rfl, hx⟩
          have Y8 := Ext.then Y7 hx
          replace HRB := HRB.keep hx
          refine hK _ _ Y8 ?_
          clear K hK hx
          refine wpTO_two ?_ ?_
          · refine wpTO_do (by rfl) ?_
            intro K hK
            go_simp
            refine Calls.mono (HRAW.out _ Y8) ?_
            rintro e y9 ⟨rfl, hx⟩
            have Y9 := Ext.then Y8 hx
            replace HRB := HRB.keep hx
            refine hK _ _ Y9 ?_
            clear K hK hx
            refine wpTO_do (by rfl) ?_
            intro K hK
            have hcv := run_str_rd (P := Tryz.prog) (src := 42) (dst := 9) (e := 5) Tryz.underlying42 Tryz.underlying5 Tryz.underlying9 _ 1 1 [UInt8.ofNat wb] rfl HRB (fun h => by cases h)
            rw [← HBB.out] at hcv
            go_simp
            refine hK _ _ Y9 ?_
            clear K hK hcv
            repeat (refine wpTO_val (by rfl) ?_; intro K hK; go_big_quiet_op; go_big_quiet_on)
            refine wpTO_nil ?_
            have XE := hid (HX1.out.then Y9)
            clear d0r
            go_wp2
            go_returns
            exact ⟨by rw [← HVV.out]; rfl, XE.out⟩
          · refine wpTO_do (by rfl) ?_
            intro K hK
            have hcv := run_str_rd (P := Tryz.prog) (src := 42) (dst := 9) (e := 5) Tryz.underlying42 Tryz.underlying5 Tryz.underlying9 _ 1 1 [UInt8.ofNat wb] rfl HRB (fun h => by cases h)
            rw [← HBB.out] at hcv
            go_simp
            refine hK _ _ Y8 ?_
            clear K hK hcv
            repeat (refine wpTO_val (by rfl) ?_; intro K hK; go_big_quiet_op; go_big_quiet_on)
            refine wpTO_do (by rfl) ?_
            intro K hK
            go_simp
            refine Calls.mono (HRAW.out _ Y8) ?_
            rintro e y10 ⟨rfl, hx⟩
            have Y10 := Ext.then Y8 hx
            replace HRB := HRB.keep hx
            refine hK _ _ Y10 ?_
            clear K hK hx
            repeat (refine wpTO_val (by rfl) ?_; intro K hK; go_big_quiet_op; go_big_quiet_on)
            refine wpTO_nil ?_
            have XE := hid (HX1.out.then Y10)
            clear d0r
            go_wp2
            go_returns
            exact ⟨by rw [← HVV.out]; rfl, XE.out⟩
        · refine wpTO_do (by rfl) ?_
          intro K hK
          have hcv := run_str_rd (P := Tryz.prog) (src := 42) (dst := 9) (e := 5) Tryz.underlying42 Tryz.underlying5 Tryz.underlying9 _ 1 1 [UInt8.ofNat wb] rfl HRB (fun h => by cases h)
          rw [← HBB.out] at hcv
          have hcv2 := (show (convert 42 9 (.slice (some ⟨w2.heap.size, 0, none⟩) 1 1)).run Tryz.prog (w2.alloc (.cells #[.int .u8 (wb : Int)] 5)).drew = .ok (.string X2b) (w2.alloc (.cells #[.int .u8 (wb : Int)] 5)).drew from hcv)
          go_simp
          refine hK _ _ Y7 ?_
          clear K hK hcv hcv2
          refine wpTO_do (by rfl) ?_
          intro K hK
          go_simp
          refine Calls.mono (HV.out _) ?_
          rintro e y11 ⟨rfl, hx⟩
          have Y11 := Ext.then Y7 hx
          replace HRB := HRB.keep hx
          refine hK _ _ Y11 ?_
          clear K hK hx
          repeat (refine wpTO_val (by rfl) ?_; intro K hK; go_big_quiet_op; go_big_quiet_on)
          refine wpTO_do (by rfl) ?_
          intro K hK
          go_simp
          refine Calls.mono (HRAW.out _ Y11) ?_
          rintro e y12 ⟨rfl, hx⟩
          have Y12 := Ext.then Y11 hx
          replace HRB := HRB.keep hx
          refine hK _ _ Y12 ?_
          clear K hK hx
          repeat (refine wpTO_val (by rfl) ?_; intro K hK; go_big_quiet_op; go_big_quiet_on)
          refine wpTO_nil ?_
          have XE := hid (HX1.out.then Y12)
          clear d0r
          go_wp2
          go_returns
          exact ⟨by rw [← HVV.out]; rfl, XE.out⟩
end Go.Proofs.YthgnipangcmanaaGreat
end
section
namespace Hy.Hyb
open Go
theorem stp_lt {w left : Nat} {s : List UInt8} : ∀ x ∈ (stp w left s).2.1, x < 2 ^ w := by
  unfold stp
  generalize Vary.rd s = r
  obtain ⟨n, k, e⟩ := r
  simp only
  repeat' split
  all_goals first
    | (intro x hx; cases hx)
    | (intro x hx; rw [List.eq_of_mem_replicate hx]; exact Nat.mod_lt _ (Nat.two_pow_pos w))
    | (intro x hx; exact Bits.unp_lt _ _ _ x (List.mem_of_mem_take hx))
theorem rdF_lt (w many : Nat) : ∀ (f : Nat) (s : List UInt8) (o : List Nat), (∀ x ∈ o, x < 2 ^ w) → ∀ x ∈ (rdF w many f s o).1, x < 2 ^ w
  | 0, s, o, h => by
    rw [rdF]
    split
    · split
      · exact h
      · simp
    · simp
  | f + 1, s, o, h => by
    rw [rdF]
    split
    · split
      · exact h
      · simp
    · split
      · simp
      · exact rdF_lt w many f _ _ (fun x hx => by
          rcases List.mem_append.1 hx with hx | hx
          · exact h x hx
          · exact stp_lt x hx)
theorem rdl_lt (s : List UInt8) (many w : Int) : ∀ x ∈ (rdl s many w).1, x < 18446744073709551616 := by
  unfold rdl
  split
  · simp
  · split
    · simp
    · intro x hx
      have h1 := rdF_lt w.toNat many.toNat many.toNat s [] (by simp) x hx
      have h2 : 2 ^ w.toNat ≤ 2 ^ 64 := Nat.pow_le_pow_right (by decide) (by omega)
      omega
theorem rdl_len2 (s : List UInt8) (many w : Int) : (rdl s many w).1.length ≤ many.toNat := by
  unfold rdl
  split
  · simp
  · split
    · simp
    · exact rdF_len w.toNat many.toNat many.toNat s [] (by simp)
end Hy.Hyb
namespace Hy
open Go in
theorem toList_data (s : ByteArray) : s.toList = s.data.toList := by
  have h := ByteArray.toList_mk s.data.toList
  have e : (⟨s.data.toList.toArray⟩ : ByteArray) = s := by cases s; simp
  rw [e] at h; exact h
end Hy
namespace Hy.Dlt
open Go
@[irreducible] def rst (s : List UInt8) (many : Int) : List Nat × Nat := match s with
  | [] => ([], 5)
  | c :: t => if (Hyb.rdl t many c.toNat).2 ≠ 0 then ([], (Hyb.rdl t many c.toNat).2) else if Bits.width (Hyb.rdl t many c.toNat).1 ≠ c.toNat then ([], 1) else ((Hyb.rdl t many c.toNat).1.map zag, 0)
theorem rst_nil (many : Int) : rst [] many = ([], 5) := by unfold rst; rfl
theorem rst_bad {c : UInt8} {t : List UInt8} {many : Int} (h : (Hyb.rdl t many c.toNat).2 ≠ 0) : rst (c :: t) many = ([], (Hyb.rdl t many c.toNat).2) := by unfold rst; simp only; rw [if_pos h]
theorem rst_form {c : UInt8} {t : List UInt8} {many : Int} (h : (Hyb.rdl t many c.toNat).2 = 0) (h2 : Bits.width (Hyb.rdl t many c.toNat).1 ≠ c.toNat) : rst (c :: t) many = ([], 1) := by unfold rst; simp only; rw [if_neg (by omega), if_pos h2]
theorem rst_ok {c : UInt8} {t : List UInt8} {many : Int} (h : (Hyb.rdl t many c.toNat).2 = 0) (h2 : Bits.width (Hyb.rdl t many c.toNat).1 = c.toNat) : rst (c :: t) many = ((Hyb.rdl t many c.toNat).1.map zag, 0) := by unfold rst; simp only; rw [if_neg (by omega), if_neg (by omega)]
theorem rst_len (s : List UInt8) (many : Int) : (rst s many).1.length ≤ many.toNat := by
  cases s with
  | nil => rw [rst_nil]; simp
  | cons c t =>
    by_cases h : (Hyb.rdl t many c.toNat).2 = 0
    · by_cases h2 : Bits.width (Hyb.rdl t many c.toNat).1 = c.toNat
      · rw [rst_ok h h2, List.length_map]; exact Hyb.rdl_len2 t many c.toNat
      · rw [rst_form h h2]; simp
    · rw [rst_bad h]; simp
theorem rst_lt (s : List UInt8) (many : Int) : ∀ x ∈ (rst s many).1, x < 18446744073709551616 := by
  cases s with
  | nil => rw [rst_nil]; simp
  | cons c t =>
    by_cases h : (Hyb.rdl t many c.toNat).2 = 0
    · by_cases h2 : Bits.width (Hyb.rdl t many c.toNat).1 = c.toNat
      · rw [rst_ok h h2]
        intro x hx
        obtain ⟨y, hy, rfl⟩ := List.mem_map.1 hx
        exact zag_lt y (Hyb.rdl_lt t many c.toNat y hy)
      · rw [rst_form h h2]; simp
    · rw [rst_bad h]; simp
@[irreducible] def rds (s : List UInt8) (many : Int) : List Nat × Nat :=
  if many < 0 then ([], 3) else if 64 < many then ([], 2) else if many = 0 then (if s = [] then ([], 0) else ([], 1))
  else if (Vary.rd s).2.2 ≠ 0 then ([], (Vary.rd s).2.2)
  else if (rst (s.drop (Vary.rd s).2.1) (many - 1)).2 ≠ 0 then ([], (rst (s.drop (Vary.rd s).2.1) (many - 1)).2)
  else (sums 0 ((Vary.rd s).1 :: (rst (s.drop (Vary.rd s).2.1) (many - 1)).1), 0)
section
variable {s : List UInt8} {many : Int} {n k e : Nat}
theorem rds_neg (h : many < 0) : rds s many = ([], 3) := by unfold rds; rw [if_pos h]
theorem rds_many (h : 64 < many) : rds s many = ([], 2) := by unfold rds; rw [if_neg (by omega), if_pos h]
theorem rds_zero : rds [] 0 = ([], 0) := by unfold rds; simp
theorem rds_form (h : s ≠ []) : rds s 0 = ([], 1) := by unfold rds; simp [h]
theorem rds_vary (h1 : 0 < many) (h2 : many ≤ 64) (h : Vary.rd s = (n, k, e)) (he : e ≠ 0) : rds s many = ([], e) := by
  unfold rds; rw [h, if_neg (by omega), if_neg (by omega), if_neg (by omega), if_pos he]
theorem rds_rest (h1 : 0 < many) (h2 : many ≤ 64) (h : Vary.rd s = (n, k, 0)) (he : (rst (s.drop k) (many - 1)).2 ≠ 0) : rds s many = ([], (rst (s.drop k) (many - 1)).2) := by
  unfold rds; rw [h, if_neg (by omega), if_neg (by omega), if_neg (by omega), if_neg (by simp), if_pos he]
theorem rds_ok (h1 : 0 < many) (h2 : many ≤ 64) (h : Vary.rd s = (n, k, 0)) (he : (rst (s.drop k) (many - 1)).2 = 0) : rds s many = (sums 0 (n :: (rst (s.drop k) (many - 1)).1), 0) := by
  unfold rds; rw [h, if_neg (by omega), if_neg (by omega), if_neg (by omega), if_neg (by simp), if_neg (by simp only; omega)]
theorem rds_len (s : List UInt8) (many : Int) : (rds s many).1.length ≤ 64 := by
  unfold rds
  repeat' split
  all_goals first
    | (simp; done)
    | (rw [sums_len, List.length_cons]
       have := rst_len (s.drop (Vary.rd s).2.1) (many - 1)
       omega)
end
end Hy.Dlt
namespace Go.Proofs.YthgnipangcmanaaGreat
open Go.RowKit Hy
set_option maxHeartbeats 1000000 in
theorem rest_any (s : ByteArray) (many : Int) (w : World) (hs : s.size ≤ 281474976710656) :
    Calls Tryz.prog 156 #[.string s, .int .i64 many] w (NumsCap (Dlt.rst s.data.toList many).1 (Dlt.rst s.data.toList many).2 w) := by
  cases hd : s.data.toList with
  | nil =>
    rw [Dlt.rst_nil]
    obtain rfl : s = ⟨#[]⟩ := by
      apply ByteArray.ext; apply Array.ext'; rw [hd]
    clear hd hs
    go_enter Tryz.func156, Tryz.ntmps156
    go_wp2
    go_returns
    exact ⟨none, 0, rfl, fun h => by simp [u64s] at h, ext_refl _, Nat.le_refl _⟩
  | cons c t =>
    have hsl : s.size = t.length + 1 := by have := congrArg List.length hd; rw [Array.length_toList] at this; simpa using this
    have hT := fun wx : World => run_from (P := Tryz.prog) (w := wx) Tryz.underlying9 s .i64 1 (by omega)
    have hX := fun wx : World => run_ix0 (P := Tryz.prog) (w := wx) Tryz.underlying9 s .i64 c t hd
    have h11 : ((1 : Nat) : Int) = 1 := rfl
    simp only [hd, List.drop_succ_cons, List.drop_zero, h11] at hT
    have e1 : s.toList.isEmpty = false := by
      have : s.toList = s.data.toList := toList_data s
      rw [this, hd]; rfl
    have HRE := hid (fun wx => hyRead_any ⟨t.toArray⟩ many c.toNat wx)
    have HLT := hid (Hyb.rdl_lt t many c.toNat)
    have hlen := Hyb.rdl_len t many c.toNat
    obtain ⟨TT, hTT⟩ : ∃ S : ByteArray, S = ⟨t.toArray⟩ := ⟨_, rfl⟩
    have htl : (⟨t.toArray⟩ : ByteArray).data.toList = t := rfl
    rw [htl, ← hTT] at HRE
    rw [← hTT] at hT
    have hc8 : c.toNat < 256 := c.toNat_lt
    have HB := hid (@Dlt.rst_bad c t many)
    have HF := hid (@Dlt.rst_form c t many)
    have HO := hid (@Dlt.rst_ok c t many)
    obtain ⟨R, hR⟩ : ∃ R, R = Dlt.rst (c :: t) many := ⟨_, rfl⟩
    rw [← hR] at HB HF HO ⊢
    unfold NumsOut at HRE
    obtain ⟨L, er, hl⟩ : ∃ L er, Hyb.rdl t many c.toNat = (L, er) := ⟨_, _, rfl⟩
    rw [hl] at HRE HLT hlen HB HF HO
    simp only at HRE HLT hlen HB HF HO
    clear hTT htl hR hl hd hs hsl
    generalize c.toNat = z at *
    have hzI : (z : Int) ≤ 255 := by omega
    obtain ⟨m, hm⟩ : ∃ m, m = L.length := ⟨_, rfl⟩
    rw [← hm] at HRE hlen
    have HM := hid hm
    have hmI : (m : Int) ≤ 64 := by omega
    clear hm hc8
    by_cases he : er = 0
    · subst he
      have HWA := hid (fun A c wx h => width_any L A m c wx HM.out.symm h HLT.out (by omega))
      have HZA := hid (fun A c wx h => all_zag L A m c wx HM.out.symm h HLT.out (by omega))
      obtain ⟨wi, hwi⟩ : ∃ wi, wi = Bits.width L := ⟨_, rfl⟩
      rw [← hwi] at HWA HF HO
      by_cases hw : wi = z
      · have hr := HO.out rfl hw
        have HMAP := hid (show (L.map Dlt.zag).length = m by rw [List.length_map, HM.out])
        obtain ⟨ZZ, hZZ⟩ : ∃ ZZ, ZZ = L.map Dlt.zag := ⟨_, rfl⟩
        rw [← hZZ] at hr HMAP HZA
        have HRR := hid hr
        subst hw
        clear HB HF HO hr hZZ hlen hwi
        go_enter Tryz.func156, Tryz.ntmps156
        go_wp2_with fail
        refine Calls.mono (HRE.out _) ?_
        rintro e w1 ⟨A, cp, rfl, hrd, hx⟩
        have HRD := hid hrd
        have HX := hid hx
        clear hrd hx
        go_wp2_with fail
        refine Calls.mono (HWA.out _ _ _ HRD.out) ?_
        rintro e _ ⟨rfl, rfl⟩
        go_wp2_with fail
        refine Calls.mono (HZA.out _ _ _ HRD.out) ?_
        rintro e w2 ⟨B, cb, rfl, hrd, hx, hc⟩
        have HRD2 := hid hrd
        have HX2 := hid (HX.out.then hx)
        have HC := hid hc
        clear hrd hx hc
        go_wp2
        go_returns
        rw [HRR.out]
        exact ⟨B, cb, by rw [HMAP.out]; rfl, HRD2.out, HX2.out, by rw [HMAP.out]; exact HC.out⟩
      · have hr := HF.out rfl hw
        have HRR := hid hr
        have h3 : ((wi : Int) != (z : Int)) = true := by rw [bne_iff_ne]; omega
        have h4 : ((wi : Int) == (z : Int)) = false := by rw [beq_eq_false_iff_ne]; omega
        clear HB HF HO hr hlen hwi hw
        go_enter Tryz.func156, Tryz.ntmps156
        go_wp2_with fail
        refine Calls.mono (HRE.out _) ?_
        rintro e w1 ⟨A, cp, rfl, hrd, hx⟩
        have HRD := hid hrd
        have HX := hid hx
        clear hrd hx
        go_wp2_with fail
        refine Calls.mono (HWA.out _ _ _ HRD.out) ?_
        rintro e _ ⟨rfl, rfl⟩
        go_wp2
        go_returns
        rw [HRR.out]
        exact ⟨none, 0, rfl, fun h => by simp [u64s] at h, HX.out, Nat.le_refl _⟩
    · have hr := HB.out he
      have HRR := hid hr
      have h3 : ((er : Int) != 0) = true := by rw [bne_iff_ne]; omega
      have h4 : ((er : Int) == 0) = false := by rw [beq_eq_false_iff_ne]; omega
      clear HB HF HO hr hlen he
      go_enter Tryz.func156, Tryz.ntmps156
      go_wp2_with fail
      refine Calls.mono (HRE.out _) ?_
      rintro e w1 ⟨A, cp, rfl, _, hx⟩
      have HX := hid hx
      clear hx
      go_wp2
      go_returns
      rw [HRR.out]
      exact ⟨none, 0, rfl, fun h => by simp [u64s] at h, HX.out, Nat.le_refl _⟩
set_option maxHeartbeats 1000000 in
theorem dRead_own (s : ByteArray) (many : Int) (w : World) (hs : s.size ≤ 281474976710656) :
    Calls Tryz.prog 120 #[.string s, .int .i64 many] w (NumsOwn 34 (Dlt.rds s.data.toList many).1 (Dlt.rds s.data.toList many).2 w) := by
  have hss : s.data.toList.length = s.size := Array.length_toList
  by_cases h1 : many < 0
  · rw [Dlt.rds_neg h1]
    go_enter Tryz.func120, Tryz.ntmps120
    go_wp2
    go_returns
    exact ⟨.slice none 0 0, rfl, World.ownsRow_nil _ _ _ _, ext_refl _⟩
  by_cases h2 : 64 < many
  · rw [Dlt.rds_many h2]
    go_enter Tryz.func120, Tryz.ntmps120
    go_wp2
    go_returns
    exact ⟨.slice none 0 0, rfl, World.ownsRow_nil _ _ _ _, ext_refl _⟩
  by_cases h3 : many = 0
  · subst h3
    by_cases h4 : s.data.toList = []
    · obtain rfl : s = ⟨#[]⟩ := by apply ByteArray.ext; apply Array.ext'; rw [h4]
      rw [h4, Dlt.rds_zero]
      clear h4 hss hs
      go_enter Tryz.func120, Tryz.ntmps120
      go_wp2
      go_returns
      exact ⟨.slice none 0 0, rfl, World.ownsRow_nil _ _ _ _, ext_refl _⟩
    · rw [Dlt.rds_form h4]
      have e1 : s.toList.isEmpty = false := by
        have : s.toList = s.data.toList := toList_data s
        rw [this]; simpa using h4
      clear h4
      go_enter Tryz.func120, Tryz.ntmps120
      go_wp2
      go_returns
      exact ⟨.slice none 0 0, rfl, World.ownsRow_nil _ _ _ _, ext_refl _⟩
  obtain ⟨mm, rfl⟩ := Int.eq_ofNat_of_zero_le (show 0 ≤ many by omega)
  obtain ⟨a, k, e, hrd⟩ : ∃ a k e, Vary.rd s.data.toList = (a, k, e) := ⟨_, _, _, rfl⟩
  have HR := hid (fun wx => read_any s wx)
  rw [hrd] at HR
  simp only at HR
  have hmI : (mm : Int) ≤ 64 := by omega
  have hm1 : (1 : Int) ≤ (mm : Int) := by omega
  have hmn : ((mm : Int) == 0) = false := by rw [beq_eq_false_iff_ne]; omega
  by_cases he : e = 0
  · subst he
    obtain ⟨r1, r2, r3, r4, _⟩ := Vary.rd_ok (s := s.data.toList) (by rw [hrd])
    rw [hrd] at r1 r2 r3 r4
    simp only at r1 r2 r3 r4
    rw [hss] at r2
    have hT := fun wx : World => run_from (P := Tryz.prog) (w := wx) Tryz.underlying9 s .i64 k r2
    obtain ⟨XD, hXD⟩ : ∃ XD : ByteArray, XD = ⟨(s.data.toList.drop k).toArray⟩ := ⟨_, rfl⟩
    rw [← hXD] at hT
    have hds : XD.size ≤ 281474976710656 := by rw [hXD, str_size, List.length_drop]; omega
    have HRE := hid (fun wx => rest_any XD ((mm : Int) - 1) wx hds)
    have hxl : XD.data.toList = s.data.toList.drop k := by rw [hXD]
    rw [hxl] at HRE
    have hlen := Dlt.rst_len (s.data.toList.drop k) ((mm : Int) - 1)
    have hlt := Dlt.rst_lt (s.data.toList.drop k) ((mm : Int) - 1)
    have HB := hid (fun h => Dlt.rds_rest (s := s.data.toList) (many := mm) (by omega) (by omega) hrd h)
    have HO := hid (fun h => Dlt.rds_ok (s := s.data.toList) (many := mm) (by omega) (by omega) hrd h)
    obtain ⟨L, er, hl⟩ : ∃ L er, Dlt.rst (s.data.toList.drop k) ((mm : Int) - 1) = (L, er) := ⟨_, _, rfl⟩
    rw [hl] at HRE hlen hlt HB HO
    unfold NumsCap at HRE
    simp only at HRE hlen hlt HB HO
    obtain ⟨R, hR⟩ : ∃ R, R = Dlt.rds s.data.toList (mm : Int) := ⟨_, rfl⟩
    rw [← hR] at HB HO ⊢
    obtain ⟨m, hm⟩ : ∃ m, m = L.length := ⟨_, rfl⟩
    rw [← hm] at HRE hlen
    have hmm : (m : Int) ≤ 63 := by omega
    have haI : (a : Int) ≤ 18446744073709551615 := by omega
    by_cases he2 : er = 0
    · subst he2
      have HRR := hid (HO.out rfl)
      have hal : ∀ x ∈ a :: L, x < 18446744073709551616 := fun x hx => by
        rcases List.mem_cons.1 hx with rfl | hx
        · exact r4
        · exact hlt x hx
      have HSU := hid (fun B c wx h => sums_own (a :: L) B (1 + m) c wx (by rw [List.length_cons, ← hm]; omega) h hal (by omega))
      have hsm : Dlt.sm (a :: L) = (Dlt.sums 0 (a :: L), 0) := by unfold Dlt.sm; rw [if_neg (by rw [List.length_cons, ← hm]; omega)]
      rw [hsm] at HSU
      have HM := hid hm
      have HM63 := hid (show m ≤ 63 by omega)
      clear HB HO hal hlen hlt hl hR hm hsm hxl hds hXD r1 r2 r3 r4 hrd h1 h2 h3 hs hss
      go_enter Tryz.func120, Tryz.ntmps120
      go_wp2_with fail
      refine Calls.mono (HR.out _) ?_
      rintro e w1 ⟨rfl, hx⟩
      have HX := hid hx
      clear hx
      go_wp2_with fail
      refine Calls.mono (HRE.out _) ?_
      rintro e w2 ⟨B, c, rfl, hrd, hx, _⟩
      have HRD := hid hrd
      have HX2 := hid (HX.out.then hx)
      clear hrd hx HX
      go_wp2_with (at_builtin; refine wpList_app rfl (.tmp 48) (.tmp 49) rowU64 rfl _ 1 (u64s [a]) rfl (own_new (base := w2.heap.size) rfl rfl (Nat.le_refl _) (by decide)) _ m (u64s L) rfl (Src.rd Tryz.underlying58 B m c _ (by rw [u64s_len, HM.out, Nat.mul_one]) (HRD.out.keep ((ext_refl _).new _)) (u64s_one _) (fun h => by
        rcases Nat.eq_zero_or_pos m with h0 | h0
        · exact h0
        · obtain ⟨_, _, e0, _⟩ := HRD.out (by rw [u64s_len, ← HM.out]; exact h0)
          rw [h] at e0; cases e0)) (by have := HM63.out; unfold maxLen; omega) (by have := HM63.out; omega) (by simp) ?_; intro v3 w3 hown3 hg3 ha3 hb3; obtain ⟨B3, c3, rfl, hrd3, _⟩ := Rd.owned hown3; have HR3 := hid hrd3; have E3 := hid (((ext_refl w2).new _).trans hb3); clear hown3 hg3 ha3 hb3 hrd3)
      refine Calls.mono (HSU.out _ _ _ (by rw [show a :: L = [a] ++ L from rfl, u64s_app]; exact HR3.out)) ?_
      rintro e w4 ⟨v, rfl, hown, hx⟩
      obtain ⟨C, c4, rfl, _⟩ := Rd.owned hown
      have HOW := hid (own_low' hown (HX2.out.then E3.out).size)
      have HX4 := hid ((HX2.out.then E3.out).then hx)
      clear hown hx
      go_wp2
      go_returns
      rw [HRR.out]
      exact ⟨_, rfl, HOW.out, HX4.out⟩
    · have HRR := hid (HB.out he2)
      have h5 : ((er : Int) != 0) = true := by rw [bne_iff_ne]; omega
      have h6 : ((er : Int) == 0) = false := by rw [beq_eq_false_iff_ne]; omega
      clear HB HO hlen hlt hl hR hm hxl hds hXD r1 r2 r3 r4 hrd h1 h2 h3 hs hss he2
      go_enter Tryz.func120, Tryz.ntmps120
      go_wp2_with fail
      refine Calls.mono (HR.out _) ?_
      rintro e w1 ⟨rfl, hx⟩
      have HX := hid hx
      clear hx
      go_wp2_with fail
      refine Calls.mono (HRE.out _) ?_
      rintro e w2 ⟨B, c, rfl, _, hx, _⟩
      have HX2 := hid (HX.out.then hx)
      clear hx HX
      go_wp2
      go_returns
      rw [HRR.out]
      exact ⟨.slice none 0 0, rfl, World.ownsRow_nil _ _ _ _, HX2.out⟩
  · rw [Dlt.rds_vary (by omega) (by omega) hrd he]
    have h5 : ((e : Int) != 0) = true := by rw [bne_iff_ne]; omega
    have h6 : ((e : Int) == 0) = false := by rw [beq_eq_false_iff_ne]; omega
    clear hrd h1 h2 h3 hs hss he
    go_enter Tryz.func120, Tryz.ntmps120
    go_wp2_with fail
    refine Calls.mono (HR.out _) ?_
    rintro e w1 ⟨rfl, hx⟩
    have HX := hid hx
    clear hx
    go_wp2
    go_returns
    exact ⟨.slice none 0 0, rfl, World.ownsRow_nil _ _ _ _, HX.out⟩
end Go.Proofs.YthgnipangcmanaaGreat
end
section
namespace Hy
open Go
theorem take_succ_snoc {l : List Nat} {i x : Nat} (hx : l[i]? = some x) : l.take (i + 1) = l.take i ++ [x] := by rw [List.take_add_one, hx]; rfl
end Hy
namespace Go.Proofs.YthgnipangcmanaaGreat
open Go.RowKit Hy
set_option maxRecDepth 100000 in
set_option maxHeartbeats 400000 in
theorem zigOf_any (n : Nat) (w : World) (hn : n < 18446744073709551616) : Calls Tryz.prog 166 #[.int .u64 n] w fun e w' => e = .returned (.int .u64 (Dlt.zig n : Nat)) ∧ w = w' := by
  have hnI : (n : Int) ≤ 18446744073709551615 := by omega
  by_cases h : n < 9223372036854775808
  · have hz := hid (Dlt.zig_lo h)
    have hI : (n : Int) < 9223372036854775808 := by omega
    clear hn h
    go_enter Tryz.func166, Tryz.ntmps166
    go_wp2
    go_returns
    exact ⟨by rw [hz.out]; go_num, rfl⟩
  · have hz := hid (Dlt.zig_hi h)
    obtain ⟨j, hj⟩ : ∃ j : Nat, n = j + 9223372036854775808 := ⟨n - 9223372036854775808, by omega⟩
    have hI : decide ((n : Int) < 9223372036854775808) = false := by rw [decide_eq_false_iff_not]; omega
    obtain ⟨d, hd⟩ : ∃ d, d = 18446744073709551616 - n := ⟨_, rfl⟩
    obtain ⟨u, hu⟩ : ∃ u, u = 2 * d % 18446744073709551616 := ⟨_, rfl⟩
    obtain ⟨r, hr⟩ : ∃ r, r = 2 * (18446744073709551616 - n) - 1 := ⟨_, rfl⟩
    have e1 : IntKind.u64.wrap (0 - (n : Int)) = (d : Int) := by rw [IntKind.wrap_u64]; omega
    have e2 : IntKind.u64.wrap (-(n : Int)) = (d : Int) := by rw [IntKind.wrap_u64]; omega
    have e3 : IntKind.u64.wrap (2 * (d : Int)) = (u : Int) := by rw [IntKind.wrap_u64]; omega
    have e4 : IntKind.u64.wrap ((u : Int) - 1) = (r : Int) := by rw [IntKind.wrap_u64]; omega
    have HR := hid hr
    clear h hd hu hr hn hj hnI
    go_enter Tryz.func166, Tryz.ntmps166
    go_wp2
    go_returns
    exact ⟨by rw [hz.out, ← HR.out]; rfl, rfl⟩
set_option maxRecDepth 100000 in
set_option maxHeartbeats 1600000 in
theorem diffsOf_any (l : List Nat) (A : Option Addr) (n cap : Nat) (w : World) (hn : l.length = n) (hr : Rd w A (u64s l)) (hl : ∀ x ∈ l, x < 18446744073709551616) (hnl : n ≤ 2000000) :
    Calls Tryz.prog 165 #[.slice A n cap] w fun e w' => ∃ B c, e = .returned (.slice B n c) ∧ Rd w' B (u64s (Dlt.difs 0 l)) ∧ Ext w w' := by
  have hnI : (n : Int) ≤ 2000000 := by omega
  have HR := hid hr
  have HN := hid hn
  have HL := hid hl
  have HNL := hid hnl
  clear hr hn hl hnl
  go_enter Tryz.func165, Tryz.ntmps165
  go_wp2
  go_loopw [3, 4] (fun v c wr => ∃ i : Nat, i ≤ n ∧ c = .int .i64 i ∧ Hid (wr.ownsRow w.heap.size 34 1 v i (u64s (Dlt.difs 0 (l.take i)))) ∧ Ext w wr) (fun _ c _ => n - (intOf c).toNat)
  case atStart => exact ⟨0, Nat.zero_le _, rfl, hid (World.ownsRow_nil _ _ _ _), ext_refl _⟩
  case round =>
    obtain ⟨i, hi, rfl, HO, X⟩ := hrel
    by_cases hlt : i < n
    · have hltI : (i : Int) < (n : Int) := by omega
      obtain ⟨x, hx⟩ : ∃ x, l[i]? = some x := ⟨_, List.getElem?_eq_getElem (by rw [HN.out]; exact hlt)⟩
      have hxl := HL.out x (List.mem_of_getElem? hx)
      obtain ⟨b1, o1, rfl, l1, c1⟩ := HR.out.num0 (by rw [HN.out]; omega)
      have d0 := (X.cell (p := ⟨b1, o1 + i, none⟩) l1).trans (c1 i x hx)
      have hxI : (x : Int) ≤ 18446744073709551615 := by omega
      have HK := hid (show i ≤ 2000000 by have := HNL.out; omega)
      rcases Nat.eq_zero_or_pos i with h0 | h0
      · subst h0
        rw [Nat.add_zero] at d0
        have HS := hid (show Dlt.difs 0 (l.take (0 + 1)) = Dlt.difs 0 (l.take 0) ++ [x] by
          rw [take_succ_snoc hx, Dlt.difs_snoc]; show _ ++ [Dlt.sb x 0] = _; rw [Dlt.sb_zero x hxl])
        generalize Dlt.difs 0 (l.take 0) = L at *
        clear c1 hx hxl
        go_wp2_with (at_builtin; refine wpList_app rfl (.tmp 13) (.tmp 17) rowU64 rfl _ 0 _ rfl (own_ext HO.out ((ext_refl _).new _)) _ 1 (u64s [x]) rfl (Src.rd Tryz.underlying58 _ 1 1 _ rfl (rd_lit rfl rfl) (u64s_one _) (fun h => by cases h)) (by unfold maxLen; omega) (by omega) (by have := X.size; simp; omega) ?_; intro v' w3 hown3 hgrow hat hbel; have O3 := hid hown3; have X3 := hid ((X.new _).trans hbel); clear hown3 hgrow hat hbel)
        go_roundw
        case rel => exact ⟨1, by omega, by go_num, hid (by rw [HS.out, u64s_app]; exact O3.out), X3.out⟩
        case measure => simp [intOf]; omega
      · obtain ⟨j, rfl⟩ : ∃ j, i = j + 1 := ⟨i - 1, by omega⟩
        obtain ⟨y, hy⟩ : ∃ y, l[j]? = some y := ⟨_, List.getElem?_eq_getElem (by rw [HN.out]; omega)⟩
        have hyl := HL.out y (List.mem_of_getElem? hy)
        have d1 := (X.cell (p := ⟨b1, o1 + j, none⟩) l1).trans (c1 j y hy)
        have hyI : (y : Int) ≤ 18446744073709551615 := by omega
        have HS := hid (show Dlt.difs 0 (l.take (j + 1 + 1)) = Dlt.difs 0 (l.take (j + 1)) ++ [Dlt.sb x y] by
          rw [take_succ_snoc hx, Dlt.difs_snoc, take_succ_snoc hy, Dlt.lst_snoc])
        have hz := Dlt.sb_int x y hyl
        have hzl := Dlt.sb_lt x y
        generalize Dlt.sb x y = z at *
        have hzI : (z : Int) ≤ 18446744073709551615 := by omega
        have hne : (((j + 1 : Nat) : Int) == 0) = false := by rw [beq_eq_false_iff_ne]; omega
        have hj1 : (((j + 1 : Nat) : Nat) : Int) - 1 = (j : Int) := by omega
        have hwj : IntKind.i64.wrap (((j + 1 : Nat) : Int) - 1) = (j : Int) := by rw [IntKind.wrap_i64]; have := HK.out; omega
        have hwj2 : IntKind.i64.wrap (j : Int) = (j : Int) := by rw [IntKind.wrap_i64]; have := HK.out; omega
        generalize Dlt.difs 0 (l.take (j + 1)) = L at *
        have HX := hid X
        obtain ⟨A3, c3, rfl, _⟩ := Rd.owned HO.out
        clear c1 hx hxl hy hyl hzl X
        have d0r := cell_regrown d0
        have d1r := cell_regrown d1
        go_wp2
        refine wp_region_late [12] [13] [(0, true), (1, true), (2, true), (3, true), (4, true), (5, true), (6, true), (7, true), (8, true), (9, true), (10, true), (11, false), (12, false), (13, true)] (by kernel_rfl) (by kernel_rfl) (fun _ _ _ _ _ h => h) (by kernel_rfl) (by rfl) ?_
        simp only [List.filterMap_cons, List.filterMap_nil, List.getElem?_toArray, List.getElem?_cons_zero, List.getElem?_cons_succ, Option.map_some, List.contains_cons, List.contains_nil, Nat.reduceBEq, Bool.or_false]
        repeat ((first | refine wpL_val (by rfl) ?_ | refine wpL_pure (by rfl) ?_); intro K hK; go_big_quiet_op; go_big_quiet_on)
        refine wpL_do (by rfl) ?_
        intro K hK
        go_simp
        have Y1 : Ext wr (wr.drew.alloc (.cells #[.int .u64 (z : Int)] 34)) := Ext.new (Ext.draw (ext_refl wr)) _
        refine hK _ _ Y1 ?_
        clear K hK
        refine wpL_late (by rfl) ?_
        intro K hK
        refine wp_app (.tmp 19) (.tmp 30) rowU64 rfl _ (j + 1) (u64s L) rfl (own_ext HO.out Y1) _ 1 (u64s [z]) rfl (Src.rd Tryz.underlying58 _ 1 1 _ rfl (rd_lit rfl rfl) (u64s_one _) (fun h => by cases h)) (by have := HK.out; unfold maxLen; omega) (by have := HK.out; omega) (by have := HX.out.size; simp; omega) ?_
        intro v3 w3 hown3 hgr3 hat3 hbel3
        refine hK _ _ ?_
        clear K hK
        obtain ⟨C3, k3, rfl, _⟩ := Rd.owned hown3
        have HO3 := hid hown3
        have HX3 : Hid (Ext w w3) := hid ((HX.out.then Y1).trans hbel3)
        clear hown3 hgr3 hat3 hbel3 d0 d1 d0r d1r
        simp only [Act.put, List.setIfInBounds_toArray, List.set_cons_succ, List.set_cons_zero]
        repeat (refine wpL_pure (by rfl) ?_; intro K hK; go_big_quiet_op; go_big_quiet_on)
        refine wpL_nil ?_
        go_wp2
        go_roundw
        case rel => exact ⟨j + 1 + 1, by omega, by go_num, hid (by rw [HS.out, u64s_app]; exact HO3.out), HX3.out⟩
        case measure => simp [intOf]; omega
    · obtain rfl : i = n := by omega
      obtain ⟨B, c, rfl, hrd, _⟩ := Rd.owned HO.out
      have hti : l.take i = l := List.take_of_length_le (by rw [HN.out]; exact Nat.le_refl _)
      rw [hti] at hrd
      have HRD := hid hrd
      clear hrd hti
      go_wp2
      go_returns
      exact ⟨B, c, rfl, HRD.out, X⟩
end Go.Proofs.YthgnipangcmanaaGreat
end
section
namespace Go.Proofs.YthgnipangcmanaaGreat
open Go.RowKit Hy
set_option maxRecDepth 100000 in
set_option maxHeartbeats 1600000 in
theorem zigsOf_any (l : List Nat) (A : Option Addr) (n cap : Nat) (w : World) (hn : l.length = n + 1) (hr : Rd w A (u64s l)) (hl : ∀ x ∈ l, x < 18446744073709551616) (hnl : n ≤ 1048576) :
    Calls Tryz.prog 134 #[.slice A (n + 1) cap] w fun e w' => ∃ B c, e = .returned (.slice B n c) ∧ Rd w' B (u64s (Dlt.zs l)) ∧ Ext w w' ∧ n ≤ c := by
  have hnI : (n : Int) ≤ 1048576 := by omega
  have HD := hid (diffsOf_any l A (n + 1) cap w hn hr hl (by omega))
  have HDL := hid (Dlt.difs_lt 0 l)
  have hdl := Dlt.difs_len 0 l
  have HZ := hid (show Dlt.zs l = ((Dlt.difs 0 l).drop 1).map Dlt.zig by
    rw [Dlt.difs_tail]; cases l <;> rfl)
  obtain ⟨D, hD⟩ : ∃ D, D = Dlt.difs 0 l := ⟨_, rfl⟩
  rw [← hD] at HD HDL hdl HZ
  rw [hn] at hdl
  have HDN := hid hdl
  have HNL := hid hnl
  clear hn hr hl hnl hD hdl
  go_enter Tryz.func134, Tryz.ntmps134
  go_wp2_with fail
  refine Calls.mono HD.out ?_
  rintro e w1 ⟨B, c, rfl, hrd, hx⟩
  have HRD := hid hrd
  have X1 := hid hx
  clear hrd hx
  go_wp2
  go_loopw [4, 5] (fun v c wr => ∃ i : Nat, i ≤ n ∧ c = .int .i64 ((i : Int) + 1) ∧ Hid (wr.ownsRow w1.heap.size 34 1 v i (u64s (((D.drop 1).take i).map Dlt.zig))) ∧ Hid (Ext w1 wr)) (fun _ c _ => n + 1 - (intOf c).toNat)
  case atStart => exact ⟨0, Nat.zero_le _, rfl, hid (World.ownsRow_nil _ _ _ _), hid (ext_refl _)⟩
  case round =>
    obtain ⟨i, hi, rfl, HO, HX⟩ := hrel
    obtain ⟨A3, c3, rfl, hrd3, _, hc3, _⟩ := Rd.owned HO.out
    by_cases hlt : i < n
    · have hltI : (i : Int) < (n : Int) := by omega
      obtain ⟨x, hx⟩ : ∃ x, D[i + 1]? = some x := ⟨_, List.getElem?_eq_getElem (by rw [HDN.out]; omega)⟩
      have hxl := HDL.out x (List.mem_of_getElem? hx)
      have hxI : (x : Int) ≤ 18446744073709551615 := by omega
      obtain ⟨b1, o1, e1, l1, c1⟩ := (HRD.out.keep HX.out).num0 (by rw [HDN.out]; omega)
      subst e1
      have d0 := c1 (i + 1) x hx
      have CZ := hid (fun wx => zigOf_any x wx hxl)
      have hzl := Dlt.zig_lt x hxl
      have HS := hid (show ((D.drop 1).take (i + 1)).map Dlt.zig = ((D.drop 1).take i).map Dlt.zig ++ [Dlt.zig x] by
        rw [take_succ_snoc (show (D.drop 1)[i]? = some x by rw [List.getElem?_drop, Nat.add_comm]; exact hx)]; simp)
      have hi1 : ((i + 1 : Nat) : Int) = (i : Int) + 1 := by omega
      have HI := hid (show i ≤ 1048576 by have := HNL.out; omega)
      generalize Dlt.zig x = z at *
      have hzI : (z : Int) ≤ 18446744073709551615 := by omega
      generalize ((D.drop 1).take i).map Dlt.zig = L at *
      clear c1 hx hxl hrd3 hc3 hzl
      go_wp2_with (first
        | (go_at_call 166; refine Calls.mono (CZ.out _) ?_; rintro e _ ⟨rfl, rfl⟩)
        | (at_builtin; refine wpList_app rfl (.tmp 14) (.tmp 20) rowU64 rfl _ i _ rfl (own_ext HO.out ((ext_refl _).new _)) _ 1 (u64s [z]) rfl (Src.rd Tryz.underlying58 _ 1 1 _ rfl (rd_lit rfl rfl) (u64s_one _) (fun h => by cases h)) (by have := HI.out; unfold maxLen; omega) (by have := HI.out; omega) (by have := HX.out.size; simp; omega) ?_; intro v' w5 hown5 hgrow hat hbel; have HO5 := hid hown5; have HX5 := hid (Below.trans (Ext.new HX.out _) hbel); obtain ⟨A5, c5, rfl, _⟩ := Rd.owned HO5.out; clear hown5 hgrow hat hbel))
      go_roundw
      case rel => exact ⟨i + 1, by omega, by go_num, hid (by rw [HS.out, u64s_app]; exact HO5.out), HX5⟩
      case measure => simp [intOf] <;> omega
    · obtain rfl : i = n := by omega
      have htk : (D.drop 1).take i = D.drop 1 := List.take_of_length_le (by rw [List.length_drop, HDN.out]; omega)
      rw [htk, ← HZ.out] at hrd3
      have HR3 := hid hrd3
      have HC3 := hid hc3
      clear htk hrd3 hc3 hlt
      go_wp2
      go_returns
      exact ⟨_, _, rfl, HR3.out, X1.out.then HX.out, HC3.out⟩
set_option maxRecDepth 100000 in
set_option maxHeartbeats 1600000 in
theorem deltaBytes_any (l : List Nat) (A : Option Addr) (n cap : Nat) (w : World) (hn : l.length = n) (hr : Rd w A (u64s l)) (hl : ∀ x ∈ l, x < 18446744073709551616) (hnl : n ≤ 1048576) :
    Calls Tryz.prog 93 #[.slice A n cap] w fun e w' => e = .returned (.string ⟨(Dlt.bys l).toArray⟩) ∧ Ext w w' := by
  have hnI : (n : Int) ≤ 1048576 := by omega
  cases l with
  | nil =>
    obtain rfl : n = 0 := by rw [← hn]; rfl
    rw [Dlt.bys_nil]
    clear hr hl hn
    go_enter Tryz.func93, Tryz.ntmps93
    go_wp2
    go_returns
    exact ⟨rfl, ext_refl _⟩
  | cons x r =>
    obtain ⟨m, rfl⟩ : ∃ m, n = m + 1 := ⟨r.length, by rw [← hn]; rfl⟩
    have HZO := hid (zigsOf_any (x :: r) A m cap w hn hr hl (by omega))
    have hz : (Dlt.zs (x :: r)).length = m := by rw [Dlt.zs_len, hn]; rfl
    have hzl := Dlt.zs_lt (x :: r)
    rw [Dlt.bys_cons]
    obtain ⟨Z, hZ⟩ : ∃ Z, Z = Dlt.zs (x :: r) := ⟨_, rfl⟩
    rw [← hZ] at hz hzl HZO ⊢
    have hw64 := Bits.width_le64 Z hzl
    have hzw := (Bits.width_le_iff Z (Bits.width Z) hzl hw64).1 (Nat.le_refl _)
    have HWID := hid (fun (B : Option Addr) (c : Nat) (wx : World) (h : Rd wx B (u64s Z)) => widthOf_any Z B m c wx hz h hzl (by omega))
    have HHB := hid (fun (B : Option Addr) (c : Nat) (wx : World) (h : Rd wx B (u64s Z)) (hc : m ≤ c) => hybridBytes_any Z B m c (Bits.width Z) wx hz h hc (by omega) hzw hw64)
    have HV := hid (fun wx => varyBytes_any x wx (hl x (by simp)))
    have hrl := Hyb.raw_len_big Z (Bits.width Z) hw64
    have HOB := hid (fun wx => oneByte_any (Bits.width Z : Nat) wx (by omega) (by omega))
    rw [Int.toNat_natCast] at HOB
    generalize Bits.width Z = wb at *
    obtain ⟨b1, o1, rfl, l1, c1⟩ := hr.num0 (by simp)
    have d0 := c1 0 x rfl
    rw [Nat.add_zero] at d0
    obtain ⟨X1b, hX1b⟩ : ∃ S : ByteArray, S = ⟨(Vary.wr x).toArray⟩ := ⟨_, rfl⟩
    obtain ⟨X2b, hX2b⟩ : ∃ S : ByteArray, S = ⟨#[UInt8.ofNat wb]⟩ := ⟨_, rfl⟩
    obtain ⟨X3b, hX3b⟩ : ∃ S : ByteArray, S = ⟨(Hyb.raw Z wb).toArray⟩ := ⟨_, rfl⟩
    have hz1 : X1b.size ≤ 9 := by rw [hX1b, str_size, Vary.wr_len]; have := Vary.beh_le8 x; omega
    have hz2 : X2b.size = 1 := by rw [hX2b]; rfl
    have hz3 : (X3b.size : Int) ≤ 100000000 := by rw [hX3b, str_size]; omega
    have HVV := hid (show X1b ++ X2b ++ X3b = ⟨(Vary.wr x ++ [UInt8.ofNat wb] ++ Hyb.raw Z wb).toArray⟩ by rw [hX1b, hX2b, hX3b, show (⟨#[UInt8.ofNat wb]⟩ : ByteArray) = ⟨[UInt8.ofNat wb].toArray⟩ from rfl, str_app, str_app])
    rw [← hX1b] at HV
    rw [← hX2b] at HOB
    rw [← hX3b] at HHB
    have hwI : (wb : Int) ≤ 64 := by omega
    have hxI : (x : Int) ≤ 18446744073709551615 := by have := hl x (by simp); omega
    clear hr hl hn hz hzl hZ hzw hw64 hrl c1 hX1b hX2b hX3b hnl
    have hmz1 : (((m + 1 : Nat) : Int) == 0) = false := by rw [beq_eq_false_iff_ne]; omega
    have hmz2 : (((m : Int) + 1) == 0) = false := by rw [beq_eq_false_iff_ne]; omega
    have hmI : (m : Int) ≤ 1048575 := by omega
    clear hnI
    go_enter Tryz.func93, Tryz.ntmps93
    go_wp2_with fail
    refine Calls.mono HZO.out ?_
    rintro e w1 ⟨B, c, rfl, hrd, hx, hcc⟩
    have HRD := hid hrd
    have X1 := hid hx
    have HCC := hid hcc
    have d0 := ext_cell hx d0
    clear hrd hx hcc
    go_wp2_with fail
    refine Calls.mono (HWID.out _ _ _ HRD.out) ?_
    rintro e _ ⟨rfl, rfl⟩
    go_wp2_with fail
    refine Calls.mono (HV.out _) ?_
    rintro e w2 ⟨rfl, hx⟩
    replace X1 := hid (X1.out.then hx)
    replace HRD := hid (HRD.out.keep hx)
    clear hx
    go_wp2_with fail
    refine Calls.mono (HOB.out _) ?_
    rintro e w3 ⟨rfl, hx⟩
    replace X1 := hid (X1.out.then hx)
    replace HRD := hid (HRD.out.keep hx)
    clear hx
    go_wp2_with fail
    refine Calls.mono (HHB.out _ _ _ HRD.out HCC.out) ?_
    rintro e w4 ⟨rfl, hx⟩
    replace X1 := hid (X1.out.then hx)
    clear hx
    go_wp2
    go_returns
    exact ⟨by rw [← HVV.out]; rfl, X1.out⟩
end Go.Proofs.YthgnipangcmanaaGreat
end
section
namespace Hy.Dlt
open Go
theorem rds_wrt (l : List Nat) (h : l.length ≤ 64) (hl : ∀ x ∈ l, x < 18446744073709551616) : rds (bys l) l.length = (l, 0) := by
  cases l with
  | nil => rw [bys_nil]; exact rds_zero
  | cons x r =>
    have hx := hl x (by simp)
    have hz := zs_lt (x :: r)
    have hzl : (zs (x :: r)).length = r.length := by rw [zs_len]; rfl
    have hw64 := Bits.width_le64 (zs (x :: r)) hz
    have hzw := (Bits.width_le_iff (zs (x :: r)) _ hz hw64).1 (Nat.le_refl _)
    have hr := Vary.rd_wr x ([UInt8.ofNat (Bits.width (zs (x :: r)))] ++ Hyb.raw (zs (x :: r)) (Bits.width (zs (x :: r)))) hx
    have hd : (bys (x :: r)).drop (Vary.beh x + 1) = UInt8.ofNat (Bits.width (zs (x :: r))) :: Hyb.raw (zs (x :: r)) (Bits.width (zs (x :: r))) := by
      rw [bys_cons, List.append_assoc, ← Vary.wr_len, List.drop_left]; rfl
    rw [← List.append_assoc, ← bys_cons] at hr
    have hu : (UInt8.ofNat (Bits.width (zs (x :: r)))).toNat = Bits.width (zs (x :: r)) := by simp; omega
    have hlen : (x :: r).length = r.length + 1 := rfl
    have hrd := Hyb.rdl_raw (l := zs (x :: r)) (k := Bits.width (zs (x :: r))) hw64 (by rw [hzl]; rw [hlen] at h; omega) hzw []
    rw [List.append_nil, if_pos rfl, hzl] at hrd
    have hrs : rst ((bys (x :: r)).drop (Vary.beh x + 1)) (r.length : Int) = ((zs (x :: r)).map zag, 0) := by
      rw [hd]
      have h1 := @rst_ok (UInt8.ofNat (Bits.width (zs (x :: r)))) (Hyb.raw (zs (x :: r)) (Bits.width (zs (x :: r)))) (r.length : Int)
      rw [hu, hrd] at h1
      exact h1 rfl rfl
    have hm : (((x :: r).length : Nat) : Int) - 1 = (r.length : Int) := by rw [hlen]; omega
    have hok := rds_ok (s := bys (x :: r)) (many := (((x :: r).length : Nat) : Int)) (by rw [hlen]; omega) (by omega) hr
    rw [hm, hrs] at hok
    rw [hok rfl]
    have hmz : (zs (x :: r)).map zag = difs x r := map_zag_zig _ (difs_lt x r)
    show (sums 0 (x :: (zs (x :: r)).map zag), 0) = _
    rw [hmz]
    show (ad 0 x :: sums (ad 0 x) (difs x r), 0) = _
    rw [ad_zero x hx, sums_difs x r hx (fun y hy => hl y (by simp [hy]))]
end Hy.Dlt
end
