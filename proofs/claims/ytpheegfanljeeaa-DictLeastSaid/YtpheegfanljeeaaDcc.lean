/- Dict: Find, Span, Texts: walks. -/
import Derived.Test.YtpheegfanljeeaaDcb
namespace Hy.Dct
open Go
@[irreducible] def fnd (b : List T) (s : T) : Nat × Bool := if chk b = 0 then (plc b s, decide (s ∈ b)) else (0, false)
theorem fnd_ok {b : List T} {s : T} (h : chk b = 0) : fnd b s = (plc b s, decide (s ∈ b)) := by unfold fnd; rw [if_pos h]
theorem fnd_bad {b : List T} {s : T} (h : chk b ≠ 0) : fnd b s = (0, false) := by unfold fnd; rw [if_neg h]
@[irreducible] def spn (b : List T) (lo hi : T) : Nat × Nat := if chk b = 0 then (plc b lo, max (plc b lo) (ple b hi)) else (0, 0)
theorem spn_ok {b : List T} {lo hi : T} (h : chk b = 0) : spn b lo hi = (plc b lo, max (plc b lo) (ple b hi)) := by unfold spn; rw [if_pos h]
theorem spn_bad {b : List T} {lo hi : T} (h : chk b ≠ 0) : spn b lo hi = (0, 0) := by unfold spn; rw [if_neg h]
theorem ple_le (b : List T) (s : T) : ple b s ≤ b.length := List.countP_le_length
end Hy.Dct
namespace Go.Proofs.Ytpheegfanljeeaa
open Go.RowKit Hy
theorem rowTs : RowT Try.prog 55 9 1 16 := RowT.mk' (z := .string ⟨#[]⟩) Try.underlying55 (by kernel_rfl) rfl (by decide)
set_option maxHeartbeats 400000 in
theorem dFind_any (b : List (List UInt8)) (A : Option Addr) (n cap : Nat) (s : ByteArray) (w : World) (hn : b.length = n) (hr : Rd w A (txs b)) (hnl : n ≤ 140737488355328) :
    Calls Try.prog 35 #[.slice A n cap, .string s] w fun e w' => e = .returned (.tuple #[.int .i64 (Dct.fnd b s.data.toList).1, .bool (Dct.fnd b s.data.toList).2, .int .i64 (Dct.chk b : Nat)]) ∧ Ext w w' := by
  have C := hid (dCheck_any b A n cap w hn hr hnl)
  have hc := Dct.chk_cases b
  by_cases h0 : Dct.chk b = 0
  · obtain ⟨hm, hb⟩ := Dct.chk_zero h0
    have h64 := (Dct.mny_false hm).1
    have CB := hid (fun wx (hx : Ext w wx) => bSearch_any b A n cap s wx hn (hr.keep hx) (by omega) hb)
    rw [Dct.fnd_ok h0]
    rw [h0] at C ⊢
    have hpl := Dct.plc_le b s.data.toList
    have hpI : (Dct.plc b s.data.toList : Int) ≤ 64 := by omega
    generalize Dct.plc b s.data.toList = p at *
    generalize decide (s.data.toList ∈ b) = q at *
    clear hn hr hnl hc h0 hm hb h64 hpl
    go_enter Try.func35, Try.ntmps35
    go_wp2_with fail
    refine Calls.mono C.out ?_
    rintro e w1 ⟨rfl, hx⟩
    have X1 := hid hx
    clear hx
    go_wp2_with fail
    refine Calls.mono (CB.out _ X1.out) ?_
    rintro e w2 ⟨rfl, hx⟩
    have X2 := hid (X1.out.then hx)
    clear hx
    go_wp2
    go_returns
    exact ⟨rfl, X2.out⟩
  · rw [Dct.fnd_bad h0]
    generalize Dct.chk b = r at *
    have h1 : ((r : Int) != 0) = true := by rw [bne_iff_ne]; omega
    have h2 : ((r : Int) == 0) = false := by rw [beq_eq_false_iff_ne]; omega
    have hrI : (r : Int) ≤ 4 := by omega
    clear hn hr hnl hc h0
    go_enter Try.func35, Try.ntmps35
    go_wp2_with fail
    refine Calls.mono C.out ?_
    rintro e w1 ⟨rfl, hx⟩
    have X1 := hid hx
    clear hx
    go_wp2
    go_returns
    exact ⟨rfl, X1.out⟩
set_option maxRecDepth 100000 in
set_option maxHeartbeats 800000 in
theorem dSpan_any (b : List (List UInt8)) (A : Option Addr) (n cap : Nat) (lo hi : ByteArray) (w : World) (hn : b.length = n) (hr : Rd w A (txs b)) (hnl : n ≤ 140737488355328) :
    Calls Try.prog 36 #[.slice A n cap, .string lo, .string hi] w fun e w' => e = .returned (.tuple #[.int .i64 (Dct.spn b lo.data.toList hi.data.toList).1, .int .i64 (Dct.spn b lo.data.toList hi.data.toList).2, .int .i64 (Dct.chk b : Nat)]) ∧ Ext w w' := by
  have C := hid (fun wx (hx : Ext w wx) => dCheck_any b A n cap wx hn (hr.keep hx) hnl)
  have hc := Dct.chk_cases b
  have X0 := hid ((((ext_refl w).new (.cells #[.slice A n cap] 55)).new (.cells #[.string lo] 9)).new (.cells #[.string hi] 9))
  have B1 := hid (((Blk.new w 55 #[.slice A n cap]).alloc (.cells #[.string lo] 9)).alloc (.cells #[.string hi] 9))
  have B2 := hid ((Blk.newAt (w := w.alloc (.cells #[.slice A n cap] 55)) (g := w.heap.size + 1) (t := 9) (cs := #[.string lo]) (by simp)).alloc (.cells #[.string hi] 9))
  have B3 := hid (Blk.newAt (w := (w.alloc (.cells #[.slice A n cap] 55)).alloc (.cells #[.string lo] 9)) (g := w.heap.size + 1 + 1) (t := 9) (cs := #[.string hi]) (by simp))
  have c1 := B1.out.cell 0
  by_cases h0 : Dct.chk b = 0
  · obtain ⟨hm, hb⟩ := Dct.chk_zero h0
    have h64 := (Dct.mny_false hm).1
    have CA := hid (fun wx (hx : Ext w wx) g1 g2 h1 h2 => search1_any b lo A n cap g1 g2 wx hn (hr.keep hx) h1 h2 (by omega) hb)
    have CB := hid (fun wx (hx : Ext w wx) g1 g2 h1 h2 => search2_any b hi A n cap g1 g2 wx hn (hr.keep hx) h1 h2 (by omega) hb)
    rw [Dct.spn_ok h0]
    simp only [h0] at C ⊢
    have hpl := Dct.plc_le b lo.data.toList
    have hql := Dct.ple_le b hi.data.toList
    have hpI : (Dct.plc b lo.data.toList : Int) ≤ 64 := by omega
    have hqI : (Dct.ple b hi.data.toList : Int) ≤ 64 := by omega
    generalize Dct.plc b lo.data.toList = p at *
    generalize Dct.ple b hi.data.toList = q at *
    have hmx : max (p : Int) (q : Int) = ((max p q : Nat) : Int) := by omega
    clear hn hr hnl hc h0 hm hb h64 hpl hql
    go_enter Try.func36, Try.ntmps36
    go_wp2_with fail
    refine Calls.mono (C.out _ X0.out) ?_
    rintro e w1 ⟨rfl, hx⟩
    have X1 := hid (X0.out.then hx)
    replace B1 := hid (B1.out.keep hx)
    replace B2 := hid (B2.out.keep hx)
    replace B3 := hid (B3.out.keep hx)
    have c1 := B1.out.cell 0
    clear hx
    go_wp2_with fail
    refine Calls.mono (CA.out _ X1.out _ _ (B1.out.cell 0) (B2.out.cell 0)) ?_
    rintro e w2 ⟨rfl, hx⟩
    have X2 := hid (X1.out.then hx)
    replace B1 := hid (B1.out.keep hx)
    replace B3 := hid (B3.out.keep hx)
    have c1 := B1.out.cell 0
    clear hx
    go_wp2_with fail
    refine Calls.mono (CB.out _ X2.out _ _ (B1.out.cell 0) (B3.out.cell 0)) ?_
    rintro e w3 ⟨rfl, hx⟩
    have X3 := hid (X2.out.then hx)
    clear hx
    go_wp2
    go_returns
    exact ⟨by rw [← hmx]; rfl, X3.out⟩
  · rw [Dct.spn_bad h0]
    generalize Dct.chk b = r at *
    have h1 : ((r : Int) != 0) = true := by rw [bne_iff_ne]; omega
    have h2 : ((r : Int) == 0) = false := by rw [beq_eq_false_iff_ne]; omega
    have hrI : (r : Int) ≤ 4 := by omega
    clear hn hr hnl hc h0
    go_enter Try.func36, Try.ntmps36
    go_wp2_with fail
    refine Calls.mono (C.out _ X0.out) ?_
    rintro e w1 ⟨rfl, hx⟩
    have X1 := hid (X0.out.then hx)
    clear hx
    go_wp2
    go_returns
    exact ⟨rfl, X1.out⟩
set_option maxRecDepth 100000 in
set_option maxHeartbeats 800000 in
theorem dTexts_any (b : List (List UInt8)) (c : List Nat) (A B : Option Addr) (n m cap cap2 : Nat) (w : World) (hn : b.length = n) (hm : c.length = m) (hr : Rd w A (txs b)) (hq : Rd w B (u64s c)) (hc : ∀ x ∈ c, x < 18446744073709551616) (hnl : n ≤ 140737488355328) (hml : m ≤ 140737488355328) :
    Calls Try.prog 34 #[.slice A n cap, .slice B m cap2] w (TextsOut (Dct.txt b c).1 (Dct.txt b c).2 w) := by
  have C := hid (dCheck_any b A n cap w hn hr hnl)
  have hcc := Dct.chk_cases b
  have hnI : (n : Int) ≤ 140737488355328 := by omega
  have hmI : (m : Int) ≤ 140737488355328 := by omega
  by_cases h0 : Dct.chk b = 0
  · by_cases h64 : 64 < c.length
    · rw [Dct.txt_many h0 h64]
      rw [h0] at C
      have h64I : (64 : Int) < (m : Int) := by omega
      clear hn hm hr hq hc hnl hml hcc h0 h64
      go_enter Try.func34, Try.ntmps34
      go_wp2_with fail
      refine Calls.mono C.out ?_
      rintro e w1 ⟨rfl, hx⟩
      have X1 := hid hx
      clear hx
      go_wp2
      go_returns
      exact ⟨none, 0, rfl, fun h => by simp [txs] at h, X1.out⟩
    · have HR3 := hid (fun (j : Nat) (hj : j < c.length) h => @Dct.txt_range b c h0 h64 j hj h)
      have HOK := hid (Dct.txt_ok (b := b) (c := c) h0 h64)
      rw [h0] at C
      have h64I : (m : Int) ≤ 64 := by omega
      have HN := hid hn
      have HM := hid hm
      have HR := hid hr
      have HQ := hid hq
      have HCL := hid hc
      have HML := hid (show m ≤ 64 by omega)
      have hwn : IntKind.u64.wrap (n : Int) = (n : Int) := by rw [IntKind.wrap_u64]; omega
      clear hn hm hr hq hc hnl hml hcc h0 h64
      go_enter Try.func34, Try.ntmps34
      go_wp2_with fail
      refine Calls.mono C.out ?_
      rintro e w1 ⟨rfl, hx⟩
      have X1 := hid hx
      clear hx
      go_wp2
      go_loopw [7, 24] (fun v ix wr => ∃ i : Nat, i ≤ m ∧ ix = .int .i64 i ∧ Hid (∀ j (hj : j < c.length), j < i → c[j] < b.length) ∧ Hid (wr.ownsRow w1.heap.size 9 1 v i (txs ((c.take i).map fun x => b.getD x []))) ∧ Hid (Ext w1 wr)) (fun _ ix _ => m - (intOf ix).toNat)
      case atStart => exact ⟨0, Nat.zero_le _, rfl, hid (fun j _ h => absurd h (Nat.not_lt_zero _)), hid (World.ownsRow_nil _ _ _ _), hid (ext_refl _)⟩
      case round =>
        obtain ⟨i, hi, rfl, HJ, HO, HX⟩ := hrel
        obtain ⟨A3, c3, rfl, hrd3, _⟩ := Rd.owned HO.out
        by_cases hlt : i < m
        · have hltI : (i : Int) < (m : Int) := by omega
          have hic : i < c.length := by rw [HM.out]; exact hlt
          obtain ⟨b1, o1, e1, l1, c1⟩ := ((HQ.out.keep X1.out).keep HX.out).nums i hic
          subst e1
          have d0 := c1 i hic
          have hxl := HCL.out c[i] (List.getElem_mem hic)
          have hxI : ((c[i] : Nat) : Int) ≤ 18446744073709551615 := by omega
          by_cases hlb : c[i] < b.length
          · have hlbI : ((c[i] : Nat) : Int) < (n : Int) := by rw [← HN.out]; omega
            obtain ⟨b2, o2, e2, l2, c2⟩ := ((HR.out.keep X1.out).keep HX.out).texts c[i] hlb
            subst e2
            have d1 := c2 c[i] hlb
            have HJ2 := hid (show ∀ j (hj : j < c.length), j < i + 1 → c[j] < b.length from fun j hj h => by
              rcases Nat.lt_or_ge j i with h2 | h2
              · exact HJ.out j hj h2
              · have : j = i := by omega
                subst this; exact hlb)
            have HS := hid (show (c.take (i + 1)).map (fun x => b.getD x []) = (c.take i).map (fun x => b.getD x []) ++ [b[c[i]]] by
              rw [List.take_succ_eq_append_getElem hic, List.map_append, List.map_singleton, List.getD_eq_getElem?_getD, List.getElem?_eq_getElem hlb]; rfl)
            generalize b[c[i]] = tx at *
            generalize c[i] = x at *
            have HI := hid (show i ≤ 64 by have := HML.out; omega)
            generalize (c.take i).map (fun x => b.getD x []) = L at *
            clear c1 c2 hxl hlb hic hrd3
            go_wp2_with (at_builtin; refine wpList_app rfl (.tmp 33) (.tmp 38) rowTs rfl _ i _ rfl (own_ext HO.out ((ext_refl _).new _)) _ 1 (txs [tx]) rfl (Src.rd Try.underlying55 _ 1 1 _ rfl (rd_lit rfl rfl) (txs_one _) (fun h => by cases h)) (by have := HI.out; unfold maxLen; omega) (by have := HI.out; omega) (by have := HX.out.size; simp; omega) ?_; intro v' w5 hown5 hgrow hat hbel; have HO5 := hid hown5; have HX5 := hid (Below.trans (Ext.new HX.out _) hbel); obtain ⟨A5, c5, rfl, _⟩ := Rd.owned HO5.out; clear hown5 hgrow hat hbel)
            go_roundw
            case rel => exact ⟨i + 1, by omega, by go_num, HJ2, hid (by rw [HS.out, txs_app]; exact HO5.out), HX5⟩
            case measure => simp [intOf] <;> omega
          · have HRR := hid (HR3.out i hic (by omega))
            have hlbI : (n : Int) ≤ ((c[i] : Nat) : Int) := by rw [← HN.out]; omega
            generalize c[i] = x at *
            clear c1 hxl hlb hic hrd3
            go_wp2
            go_returns
            rw [HRR.out]
            exact ⟨none, 0, rfl, fun h => by simp [txs] at h, X1.out.then HX.out⟩
        · obtain rfl : i = m := by omega
          have HRR := hid (HOK.out (fun j hj => HJ.out j hj (by rw [← HM.out]; exact hj)))
          rw [List.take_of_length_le (by rw [HM.out]; exact Nat.le_refl _)] at hrd3
          have HR3 := hid hrd3
          clear hrd3 hlt
          go_wp2
          go_returns
          rw [HRR.out]
          exact ⟨_, c3, by simp only [List.length_map, HM.out]; rfl, HR3.out, X1.out.then HX.out⟩
  · rw [Dct.txt_bad h0]
    generalize Dct.chk b = r at *
    have h1 : ((r : Int) != 0) = true := by rw [bne_iff_ne]; omega
    have h2 : ((r : Int) == 0) = false := by rw [beq_eq_false_iff_ne]; omega
    have hrI : (r : Int) ≤ 4 := by omega
    clear hn hm hr hq hc hnl hml hcc h0
    go_enter Try.func34, Try.ntmps34
    go_wp2_with fail
    refine Calls.mono C.out ?_
    rintro e w1 ⟨rfl, hx⟩
    have X1 := hid hx
    clear hx
    go_wp2
    go_returns
    exact ⟨none, 0, rfl, fun h => by simp [txs] at h, X1.out⟩
end Go.Proofs.Ytpheegfanljeeaa
