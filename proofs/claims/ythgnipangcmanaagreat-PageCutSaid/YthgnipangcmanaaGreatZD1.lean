/- Texts of this claim, put together: walks and plain laws. -/
import Derived.Test.YthgnipangcmanaaGreatZG1
import Derived.Test.YthgnipangcmanaaGreatRows
import Derived.Test.YthgnipangcmanaaGreatProg
import Derived.Test.YthgnipangcmanaaGreatShelf
import Derived.Test.YthgnipangcmanaaGreatZX1
import Derived.StillTactics
import Derived.StillTailTactics
import Derived.Sort.OwnSorted
import Derived.Maps.Own
import Derived.Maps.OwnOps
section
namespace Go.Proofs.YthgnipangcmanaaGreat
open Go.RowKit Hy
set_option maxHeartbeats 1600000 in
/-- the document's TextLess -/
theorem textLess_any (s t : ByteArray) (w : World) (hs : s.size ≤ 140737488355328) (ht : t.size ≤ 140737488355328) :
    Calls Tryz.prog 167 #[.string s, .string t] w fun e w' => e = .returned (.bool (Cel.tless s t)) ∧ Ext w w' := by
  obtain ⟨R, hR⟩ : ∃ R, R = Cel.tless s t := ⟨_, rfl⟩
  rw [← hR]
  have HR := hid (show R = numsLess (Cel.bl s) (Cel.bl t) from hR)
  have HLS := hid (Cel.bl_len s)
  have HLT := hid (Cel.bl_len t)
  obtain ⟨a, ha⟩ : ∃ a, a = Cel.bl s := ⟨_, rfl⟩
  obtain ⟨b, hb⟩ : ∃ b, b = Cel.bl t := ⟨_, rfl⟩
  have HAE := hid (show ∀ j (hj : j < a.length) (hj' : j < s.size), ((s[j]'hj').toNat) = a[j] by subst ha; intro j hj hj'; simp [Cel.bl]; rfl)
  have HBE := hid (show ∀ j (hj : j < b.length) (hj' : j < t.size), ((t[j]'hj').toNat) = b[j] by subst hb; intro j hj hj'; simp [Cel.bl]; rfl)
  rw [← ha] at HR HLS
  rw [← hb] at HR HLT
  have hsI : (s.size : Int) ≤ 140737488355328 := by omega
  have htI : (t.size : Int) ≤ 140737488355328 := by omega
  clear hR ha hb hs ht
  go_enter Tryz.func167, Tryz.ntmps167
  go_wp2
  go_loopw [5] (fun i wr => ∃ k : Nat, k ≤ s.size ∧ k ≤ t.size ∧ i = .int .i64 k ∧ Hid (a.take k = b.take k) ∧ Ext w wr) (fun i _ => s.size - (intOf i).toNat)
  case atStart => exact ⟨0, Nat.zero_le _, Nat.zero_le _, rfl, hid rfl, ext_refl _⟩
  case round =>
    obtain ⟨k, hk1, hk2, rfl, HT, X⟩ := hrel
    by_cases h1 : k < s.size
    · by_cases h2 : k < t.size
      · have ha : k < a.length := by rw [HLS.out]; exact h1
        have hb : k < b.length := by rw [HLT.out]; exact h2
        have ea := HAE.out k ha h1
        have eb := HBE.out k hb h2
        obtain ⟨x, hx⟩ : ∃ x, x = s[k]'h1 := ⟨_, rfl⟩
        obtain ⟨y, hy⟩ : ∃ y, y = t[k]'h2 := ⟨_, rfl⟩
        have hrs := fun w : World => run_ix (P := Tryz.prog) (w := w) Tryz.underlying9 s .i64 k x (by rw [List.getElem?_eq_getElem (by simpa using h1), hx]; rfl)
        have hrt := fun w : World => run_ix (P := Tryz.prog) (w := w) Tryz.underlying9 t .i64 k y (by rw [List.getElem?_eq_getElem (by simpa using h2), hy]; rfl)
        rw [← hx] at ea
        rw [← hy] at eb
        by_cases hxy : x = y
        · have HN := hid (show a.take (k + 1) = b.take (k + 1) from numsLess_step a b k ha hb HT.out (by rw [← ea, ← eb, hxy]))
          have e1 : ((x.toNat : Int) == (y.toNat : Int)) = true := by rw [hxy]; simp
          have e2 : ((x.toNat : Int) != (y.toNat : Int)) = false := by rw [hxy]; simp
          clear ea eb hx hy hxy ha hb
          go_wp2_with fail
          go_quiet (fail)
          go_wp2
          go_roundw
          case rel => exact ⟨k + 1, by omega, by omega, by go_num, HN, X.draws _⟩
          case measure => simp [intOf]; omega
        · have hne : x.toNat ≠ y.toNat := fun h => hxy (UInt8.toNat.inj h)
          have HE := hid (show R = decide (x.toNat < y.toNat) by rw [HR.out, numsLess_diff a b k ha hb HT.out (by rw [← ea, ← eb]; exact hne), ea, eb])
          have e1 : ((x.toNat : Int) == (y.toNat : Int)) = false := by rw [beq_eq_false_iff_ne]; omega
          have e2 : ((x.toNat : Int) != (y.toNat : Int)) = true := by simp; omega
          clear ea eb hx hy hxy ha hb
          clear hne
          go_wp2_with fail
          go_quiet (fail)
          go_wp2_with fail
          go_quiet (fail)
          go_wp2
          go_returns
          exact ⟨by rw [HE.out]; rfl, (X.draws _).draws _⟩
      · have hkt : k = t.size := by omega
        have HE := hid (show R = decide (a.length < b.length) by
          rw [HR.out]; refine numsLess_end a b ?_
          rw [HLS.out, HLT.out, Nat.min_eq_right (by omega), ← hkt]; exact HT.out)
        have HE2 := hid (show R = decide (s.size < t.size) by rw [HE.out, HLS.out, HLT.out])
        clear hkt HE
        go_wp2
        go_returns
        exact ⟨by rw [HE2.out]; simp, X⟩
    · have hks : k = s.size := by omega
      have HE := hid (show R = decide (a.length < b.length) by
        rw [HR.out]; refine numsLess_end a b ?_
        rw [HLS.out, HLT.out, Nat.min_eq_left (by omega), ← hks]; exact HT.out)
      have HE2 := hid (show R = decide (s.size < t.size) by rw [HE.out, HLS.out, HLT.out])
      clear hks HE
      go_wp2
      go_returns
      exact ⟨by rw [HE2.out]; simp, X⟩
end Go.Proofs.YthgnipangcmanaaGreat
end
section
namespace Hy.Dct
open Go
theorem mny_eq (l : List T) : mny l = !(decide (l.length ≤ 64) && Front.fitB l) := by
  have h := Front.fitB_iff l
  cases hf : Front.fitB l with
  | true =>
    have h1 := h.1 hf
    have : l.any (fun s => decide (16 < s.length)) = false := by
      rw [List.any_eq_false]; intro s hs; have := h1 s hs; simp; omega
    unfold mny; rw [this]
    by_cases h6 : l.length ≤ 64
    · simp [h6]
    · simp [h6]; omega
  | false =>
    have : l.any (fun s => decide (16 < s.length)) = true := by
      rw [List.any_eq_true]
      apply Classical.byContradiction
      intro hn
      have : Front.fitB l = true := h.2 fun s hs => by
        rcases Nat.lt_or_ge 16 s.length with h2 | h2
        · exact absurd ⟨s, hs, decide_eq_true h2⟩ hn
        · exact h2
      rw [this] at hf; cases hf
    unfold mny; rw [this]; simp
end Hy.Dct
namespace Go.Proofs.YthgnipangcmanaaGreat
open Go.RowKit Hy
theorem dLong_any (s : ByteArray) (w : World) : Calls Tryz.prog 174 #[.string s] w fun e w' => e = .returned (.bool (decide (16 < s.size))) ∧ w = w' := by
  have hI : decide ((16 : Int) < (s.size : Int)) = decide (16 < s.size) := by simp; omega
  have HI := hid hI
  clear hI
  go_enter Tryz.func174, Tryz.ntmps174
  go_wp2
  go_returns
  exact ⟨ret_bool HI.out, rfl⟩
set_option maxHeartbeats 400000 in
theorem dIndexFunc_any (l : List (List UInt8)) (A : Option Addr) (n cap : Nat) (w : World) (hn : l.length = n) (hr : Rd w A (txs l)) (hnl : n ≤ 140737488355328) :
    Calls Tryz.prog 146 #[.slice A n cap, .func (.func 174) #[] #[]] w fun e w' => (∃ r : Int, e = .returned (.int .i64 r) ∧ decide (0 ≤ r) = !Front.fitB l) ∧ w = w' := by
  have HN := hid hn
  have HA := hid hr
  have HF := hid (Front.fitB_iff l)
  clear hr hn
  go_enter Tryz.func146, Tryz.ntmps146
  go_wp2
  go_loop [5, 8] (fun _ c => ∃ k : Nat, k ≤ n ∧ c = .int .i64 k ∧ Hid (∀ i (h : i < l.length), i < k → l[i].length ≤ 16)) (fun _ c => n - (intOf c).toNat)
  case atStart => exact ⟨0, Nat.zero_le _, rfl, hid fun i h h2 => absurd h2 (Nat.not_lt_zero _)⟩
  case round =>
    obtain ⟨k, hk, rfl, HT⟩ := hrel
    by_cases hlt : k < n
    · have hka : k < l.length := by rw [HN.out]; exact hlt
      obtain ⟨b1, o1, e1, l1, c1⟩ := HA.out.texts k hka
      subst e1
      have d1 := c1 k hka
      obtain ⟨S, hS⟩ : ∃ S : ByteArray, S = ⟨l[k].toArray⟩ := ⟨_, rfl⟩
      have hz : S.size = l[k].length := by rw [hS, str_size]
      rw [← hS] at d1
      have HZ := hid hz
      clear c1 hS hz
      by_cases h16 : S.size ≤ 16
      · have HT2 : Hid (∀ i (h : i < l.length), i < k + 1 → l[i].length ≤ 16) := hid fun i h h2 => by
          rcases Nat.lt_or_ge i k with h3 | h3
          · exact HT.out i h h3
          · have : i = k := by omega
            subst this
            rw [← HZ.out]; exact h16
        have C : Hid (Calls Tryz.prog 174 #[.string S] w fun e w' => e = .returned (.bool false) ∧ w = w') := by
          have := dLong_any S w
          rw [decide_eq_false (by omega)] at this
          exact hid this
        clear HZ hka h16
        go_wp2_with (go_at_call 174; refine C.out.mono ?_; rintro e w2 ⟨rfl, rfl⟩)
        go_round
        case rel => exact ⟨k + 1, by omega, by go_num, HT2⟩
        case measure => simp [intOf]; omega
      · have hf : Front.fitB l = false := by
          rw [← Bool.not_eq_true, HF.out]
          intro h
          have := h l[k] (List.getElem_mem hka)
          rw [← HZ.out] at this; omega
        have HFF := hid hf
        have C : Hid (Calls Tryz.prog 174 #[.string S] w fun e w' => e = .returned (.bool true) ∧ w = w') := by
          have := dLong_any S w
          rw [decide_eq_true (by omega)] at this
          exact hid this
        clear HZ hka h16 hf
        go_wp2_with (go_at_call 174; refine C.out.mono ?_; rintro e w2 ⟨rfl, rfl⟩)
        go_returns
        exact ⟨⟨_, rfl, by rw [HFF.out]; simp⟩, rfl⟩
    · obtain rfl : k = n := by omega
      have hf : Front.fitB l = true := HF.out.2 fun s hs => by
        obtain ⟨i, hi, rfl⟩ := List.getElem_of_mem hs
        exact HT.out i hi (by rw [← HN.out]; exact hi)
      have HFF := hid hf
      clear hf
      go_wp2
      go_returns
      exact ⟨⟨_, rfl, by rw [HFF.out]; rfl⟩, rfl⟩
theorem dContainsFunc_any (l : List (List UInt8)) (A : Option Addr) (n cap : Nat) (w : World) (hn : l.length = n) (hr : Rd w A (txs l)) (hnl : n ≤ 140737488355328) :
    Calls Tryz.prog 104 #[.slice A n cap, .func (.func 174) #[] #[]] w fun e w' => e = .returned (.bool (!Front.fitB l)) ∧ w = w' := by
  have C := hid (dIndexFunc_any l A n cap w hn hr hnl)
  clear hn hr
  go_enter Tryz.func104, Tryz.ntmps104
  go_wp2_with (go_at_call 146; refine C.out.mono ?_; rintro e w2 ⟨⟨r, rfl, hr⟩, rfl⟩; have HR := hid hr; clear hr)
  go_returns
  exact ⟨by rw [← HR.out]; rfl, rfl⟩
theorem dMany_any (l : List (List UInt8)) (A : Option Addr) (n cap : Nat) (w : World) (hn : l.length = n) (hr : Rd w A (txs l)) (hnl : n ≤ 140737488355328) :
    Calls Tryz.prog 147 #[.slice A n cap] w fun e w' => e = .returned (.bool (Dct.mny l)) ∧ w = w' := by
  have C := hid (dContainsFunc_any l A n cap w hn hr hnl)
  have HM := hid (Dct.mny_eq l)
  rw [hn] at HM
  rw [HM.out]
  by_cases h64 : n ≤ 64
  · have h64I : (n : Int) ≤ 64 := by omega
    rw [decide_eq_true h64]
    clear hn hr hnl HM h64
    generalize Front.fitB l = f at *
    go_enter Tryz.func147, Tryz.ntmps147
    go_wp2_with fail
    refine Calls.mono C.out ?_
    rintro e _ ⟨rfl, rfl⟩
    go_wp2
    go_returns
    exact ⟨by simp; intro h; omega, rfl⟩
  · have h64I : (64 : Int) < (n : Int) := by omega
    rw [decide_eq_false h64]
    clear hn hr hnl HM h64 C
    go_enter Tryz.func147, Tryz.ntmps147
    go_wp2
    go_returns
    exact ⟨rfl, rfl⟩
set_option maxHeartbeats 800000 in
theorem dCheck_any (b : List (List UInt8)) (A : Option Addr) (n cap : Nat) (w : World) (hn : b.length = n) (hr : Rd w A (txs b)) (hnl : n ≤ 140737488355328) :
    Calls Tryz.prog 185 #[.slice A n cap] w fun e w' => e = .returned (.int .i64 (Dct.chk b : Nat)) ∧ Ext w w' := by
  have C := hid (dMany_any b A n cap w hn hr hnl)
  have hnI : (n : Int) ≤ 140737488355328 := by omega
  by_cases hm : Dct.mny b = true
  · rw [hm] at C
    rw [Dct.chk_many hm]
    clear hn hr hnl hm
    go_enter Tryz.func185, Tryz.ntmps185
    go_wp2_with fail
    refine Calls.mono C.out ?_
    rintro e _ ⟨rfl, rfl⟩
    go_wp2
    go_returns
    exact ⟨rfl, ext_refl _⟩
  · rw [Bool.not_eq_true] at hm
    rw [hm] at C
    have H1 := hid (Dct.chk_ok hm)
    have H2 := hid (Dct.chk_state hm)
    have HN := hid hn
    have HR := hid hr
    clear hn hr hnl hm
    generalize Dct.chk b = r at *
    go_enter Tryz.func185, Tryz.ntmps185
    go_wp2_with fail
    refine Calls.mono C.out ?_
    rintro e _ ⟨rfl, rfl⟩
    go_wp2
    go_loopw [3] (fun c wr => ∃ k : Nat, (k ≤ n ∨ k = 0) ∧ c = .int .i64 ((k : Int) + 1) ∧ Hid (Dct.asc (b.take (k + 1)) = true) ∧ Ext w wr) (fun c _ => n + 1 - (intOf c).toNat)
    case atStart => exact ⟨0, .inr rfl, rfl, hid (by cases b <;> rfl), ext_refl _⟩
    case round =>
      obtain ⟨k, hk, rfl, HA, X⟩ := hrel
      by_cases hlt : k + 1 < n
      · have hltI : (k : Int) + 1 < (n : Int) := by omega
        have hk1 : k + 1 < b.length := by rw [HN.out]; exact hlt
        obtain ⟨b1, o1, e1, l1, c1⟩ := (HR.out.keep X).texts 0 (by omega)
        subst e1
        have d0 := c1 k (by omega)
        have d1 := c1 (k + 1) hk1
        have HT := hid (Dct.asc_take b k hk1 HA.out)
        have HB := hid (Dct.bless b[k] b[k + 1])
        have HF := hid (Dct.asc_false_take b (k + 2))
        obtain ⟨S0, hS0⟩ : ∃ S : ByteArray, S = ⟨b[k].toArray⟩ := ⟨_, rfl⟩
        obtain ⟨S1, hS1⟩ : ∃ S : ByteArray, S = ⟨b[k + 1].toArray⟩ := ⟨_, rfl⟩
        have e0 : S0.toList = b[k] := by rw [hS0, ByteArray.toList_mk]
        have e1 : S1.toList = b[k + 1] := by rw [hS1, ByteArray.toList_mk]
        rw [← e0, ← e1] at HB
        rw [← e0, ← e1] at HT
        rw [← hS0] at d0
        rw [← hS1] at d1
        have hkI : (k : Int) ≤ 140737488355328 := by omega
        have hsub : (k : Int) + 1 - 1 = (k : Int) := by omega
        have hk11 : ((k + 1 : Nat) : Int) = (k : Int) + 1 := by omega
        clear c1 hS0 hS1 e0 e1
        by_cases hl : S0.toList < S1.toList
        · rw [decide_eq_true hl] at HT HB
          have hb := HB.out
          clear hl
          go_wp2_with fail
          go_quiet (fail)
          go_wp2
          go_roundw
          case rel => exact ⟨k + 1, by omega, by go_num, HT, X.draws _⟩
          case measure => simp [intOf] <;> omega
        · rw [decide_eq_false hl] at HT HB
          have hb := HB.out
          have HRR := hid (H2.out (HF.out HT.out))
          clear hl
          go_wp2_with fail
          go_quiet (fail)
          go_wp2
          go_returns
          exact ⟨by rw [HRR.out]; rfl, X.draws _⟩
      · have hltI : ¬ (k : Int) + 1 < (n : Int) := by omega
        have ht : b.take (k + 1) = b := List.take_of_length_le (by rw [HN.out]; omega)
        have HRR := hid (H1.out (by have := HA.out; rw [ht] at this; exact this))
        clear ht hlt
        go_wp2
        go_returns
        exact ⟨by rw [HRR.out]; rfl, X⟩
end Go.Proofs.YthgnipangcmanaaGreat
end
section
namespace Go.Proofs.YthgnipangcmanaaGreat
open Go.RowKit Hy
theorem rowTs : RowT Tryz.prog 64 9 1 16 := RowT.mk' (z := .string ⟨#[]⟩) Tryz.underlying64 (by kernel_rfl) rfl (by decide)
set_option maxRecDepth 100000 in
set_option maxHeartbeats 800000 in
theorem dTexts_any (b : List (List UInt8)) (c : List Nat) (A B : Option Addr) (n m cap cap2 : Nat) (w : World) (hn : b.length = n) (hm : c.length = m) (hr : Rd w A (txs b)) (hq : Rd w B (u64s c)) (hc : ∀ x ∈ c, x < 18446744073709551616) (hnl : n ≤ 140737488355328) (hml : m ≤ 140737488355328) :
    Calls Tryz.prog 160 #[.slice A n cap, .slice B m cap2] w (TextsOut (Dct.txt b c).1 (Dct.txt b c).2 w) := by
  have C := hid (dCheck_any b A n cap w hn hr hnl)
  have hcc := Dct.chk_cases b
  have hnI : (n : Int) ≤ 140737488355328 := by omega
  have hmI : (m : Int) ≤ 140737488355328 := by omega
  by_cases h0 : Dct.chk b = 0
  · by_cases h64 : 64 < c.length
    · rw [Dct.txt_many h0 h64]
      rw [h0] at C
      have h64I : (64 : Int) < (m : Int) := by omega
      clear hn hm hr hq hc hnl hml hcc h0 h64
      go_enter Tryz.func160, Tryz.ntmps160
      go_wp2_with fail
      refine Calls.mono C.out ?_
      rintro e w1 ⟨rfl, hx⟩
      have X1 := hid hx
      clear hx
      go_wp2
      go_returns
      exact ⟨none, 0, rfl, fun h => by simp [txs] at h, X1.out⟩
    · have HR3 := hid (fun (j : Nat) (hj : j < c.length) h => @Dct.txt_range b c h0 h64 j hj h)
      have HOK := hid (Dct.txt_ok (b := b) (c := c) h0 h64)
      rw [h0] at C
      have h64I : (m : Int) ≤ 64 := by omega
      have HN := hid hn
      have HM := hid hm
      have HR := hid hr
      have HQ := hid hq
      have HCL := hid hc
      have HML := hid (show m ≤ 64 by omega)
      have hwn : IntKind.u64.wrap (n : Int) = (n : Int) := by rw [IntKind.wrap_u64]; omega
      clear hn hm hr hq hc hnl hml hcc h0 h64
      go_enter Tryz.func160, Tryz.ntmps160
      go_wp2_with fail
      refine Calls.mono C.out ?_
      rintro e w1 ⟨rfl, hx⟩
      have X1 := hid hx
      clear hx
      go_wp2
      go_loopw [7, 24] (fun v ix wr => ∃ i : Nat, i ≤ m ∧ ix = .int .i64 i ∧ Hid (∀ j (hj : j < c.length), j < i → c[j] < b.length) ∧ Hid (wr.ownsRow w1.heap.size 9 1 v i (txs ((c.take i).map fun x => b.getD x []))) ∧ Hid (Ext w1 wr)) (fun _ ix _ => m - (intOf ix).toNat)
      case atStart => exact ⟨0, Nat.zero_le _, rfl, hid (fun j _ h => absurd h (Nat.not_lt_zero _)), hid (World.ownsRow_nil _ _ _ _), hid (ext_refl _)⟩
      case round =>
        obtain ⟨i, hi, rfl, HJ, HO, HX⟩ := hrel
        obtain ⟨A3, c3, rfl, hrd3, _⟩ := Rd.owned HO.out
        by_cases hlt : i < m
        · have hltI : (i : Int) < (m : Int) := by omega
          have hic : i < c.length := by rw [HM.out]; exact hlt
          obtain ⟨b1, o1, e1, l1, c1⟩ := ((HQ.out.keep X1.out).keep HX.out).nums i hic
          subst e1
          have d0 := c1 i hic
          have hxl := HCL.out c[i] (List.getElem_mem hic)
          have hxI : ((c[i] : Nat) : Int) ≤ 18446744073709551615 := by omega
          by_cases hlb : c[i] < b.length
          · have hlbI : ((c[i] : Nat) : Int) < (n : Int) := by rw [← HN.out]; omega
            obtain ⟨b2, o2, e2, l2, c2⟩ := ((HR.out.keep X1.out).keep HX.out).texts c[i] hlb
            subst e2
            have d1 := c2 c[i] hlb
            have HJ2 := hid (show ∀ j (hj : j < c.length), j < i + 1 → c[j] < b.length from fun j hj h => by
              rcases Nat.lt_or_ge j i with h2 | h2
              · exact HJ.out j hj h2
              · have : j = i := by omega
                subst this; exact hlb)
            have HS := hid (show (c.take (i + 1)).map (fun x => b.getD x []) = (c.take i).map (fun x => b.getD x []) ++ [b[c[i]]] by
              rw [List.take_succ_eq_append_getElem hic, List.map_append, List.map_singleton, List.getD_eq_getElem?_getD, List.getElem?_eq_getElem hlb]; rfl)
            generalize b[c[i]] = tx at *
            generalize c[i] = x at *
            have HI := hid (show i ≤ 64 by have := HML.out; omega)
            generalize (c.take i).map (fun x => b.getD x []) = L at *
            clear c1 c2 hxl hlb hic hrd3
            go_wp2_with (at_builtin; refine wpList_app rfl (.tmp 33) (.tmp 38) rowTs rfl _ i _ rfl (own_ext HO.out ((ext_refl _).new _)) _ 1 (txs [tx]) rfl (Src.rd Tryz.underlying64 _ 1 1 _ rfl (rd_lit rfl rfl) (txs_one _) (fun h => by cases h)) (by have := HI.out; unfold maxLen; omega) (by have := HI.out; omega) (by have := HX.out.size; simp; omega) ?_; intro v' w5 hown5 hgrow hat hbel; have HO5 := hid hown5; have HX5 := hid (Below.trans (Ext.new HX.out _) hbel); obtain ⟨A5, c5, rfl, _⟩ := Rd.owned HO5.out; clear hown5 hgrow hat hbel)
            go_roundw
            case rel => exact ⟨i + 1, by omega, by go_num, HJ2, hid (by rw [HS.out, txs_app]; exact HO5.out), HX5⟩
            case measure => simp [intOf] <;> omega
          · have HRR := hid (HR3.out i hic (by omega))
            have hlbI : (n : Int) ≤ ((c[i] : Nat) : Int) := by rw [← HN.out]; omega
            generalize c[i] = x at *
            clear c1 hxl hlb hic hrd3
            go_wp2
            go_returns
            rw [HRR.out]
            exact ⟨none, 0, rfl, fun h => by simp [txs] at h, X1.out.then HX.out⟩
        · obtain rfl : i = m := by omega
          have HRR := hid (HOK.out (fun j hj => HJ.out j hj (by rw [← HM.out]; exact hj)))
          rw [List.take_of_length_le (by rw [HM.out]; exact Nat.le_refl _)] at hrd3
          have HR3 := hid hrd3
          clear hrd3 hlt
          go_wp2
          go_returns
          rw [HRR.out]
          exact ⟨_, c3, by simp only [List.length_map, HM.out]; rfl, HR3.out, X1.out.then HX.out⟩
  · rw [Dct.txt_bad h0]
    generalize Dct.chk b = r at *
    have h1 : ((r : Int) != 0) = true := by rw [bne_iff_ne]; omega
    have h2 : ((r : Int) == 0) = false := by rw [beq_eq_false_iff_ne]; omega
    have hrI : (r : Int) ≤ 4 := by omega
    clear hn hm hr hq hc hnl hml hcc h0
    go_enter Tryz.func160, Tryz.ntmps160
    go_wp2_with fail
    refine Calls.mono C.out ?_
    rintro e w1 ⟨rfl, hx⟩
    have X1 := hid hx
    clear hx
    go_wp2
    go_returns
    exact ⟨none, 0, rfl, fun h => by simp [txs] at h, X1.out⟩
end Go.Proofs.YthgnipangcmanaaGreat
end
section
namespace Hy.Dct
open Go
@[irreducible] def of (l : List T) : List T × List Nat × Nat := if mny l = true then ([], [], 2) else (bk l, cds l, 0)
theorem of_many {l : List T} (h : mny l = true) : of l = ([], [], 2) := by unfold of; rw [if_pos h]
theorem of_ok {l : List T} (h : mny l = false) : of l = (bk l, cds l, 0) := by unfold of; rw [if_neg (by simp [h])]
theorem bk_nil : bk [] = [] := List.eq_nil_of_length_eq_zero (by have := bk_len []; simpa using this)
end Hy.Dct
namespace Go.Proofs.YthgnipangcmanaaGreat
open Go.RowKit Hy Go.Maps
theorem txs_enc (l : List (List UInt8)) : l.map encStr = txs l := rfl
theorem dSort_own (l : List (List UInt8)) (n g c base : Nat) (w : World) (hn : l.length = n) (ho : w.ownsRow base 9 1 (.slice (some ⟨g, 0, none⟩) n c) n (txs l)) (hnl : n ≤ 64) (hb : base ≤ w.heap.size) :
    Calls Tryz.prog 149 #[.slice (some ⟨g, 0, none⟩) n c] w fun e w' => e = .returned (.tuple #[]) ∧ w'.ownsRow base 9 1 (.slice (some ⟨g, 0, none⟩) n c) n (txs (Dct.srt l)) ∧ Below base w w' := by
  rcases ho.2 with ⟨h, _⟩ | ⟨g', cap, cur, hv, hbg, hg, h1, h2, h3, h4⟩
  · cases h
  · injection hv with ha _ hcap
    injection ha with ha
    injection ha with ha
    subst ha hcap
    have hH := holds_of_block (ss := l) hg (by rw [hn, ← Nat.mul_one n]; exact h4)
    have hC := Tryz.slices_Sort_string g 0 c l w hH (Blk.lt (cs := cur) hg) (by omega)
    rw [hn] at hC
    refine Calls.mono hC ?_
    rintro e w' ⟨rfl, q, os, rfl⟩
    have hsl := Dct.srt_len l
    refine ⟨rfl, ?_, (Below.refl base w).grown (grownBy_sorted _) hb (fun k hk => by injection hk with hk; omega)⟩
    have := ownsRow_sorted (base := base) (g := g) (cap := c) (n := q) (os := os) (ss := l) (ts := Dct.srt l) hsl hbg hg (by omega) h2 h3
    rw [hn] at this
    exact this
theorem dCompact_own (l : List (List UInt8)) (n g c base : Nat) (w : World) (hn : l.length = n) (ho : w.ownsRow base 9 1 (.slice (some ⟨g, 0, none⟩) n c) n (txs l)) (hnl : n ≤ 64) (hb : base ≤ w.heap.size) :
    Calls Tryz.prog 150 #[.slice (some ⟨g, 0, none⟩) n c] w fun e w' => e = .returned (.slice (some ⟨g, 0, none⟩) (Lib.compact l).length c) ∧ Rd w' (some ⟨g, 0, none⟩) (txs (Lib.compact l)) ∧ Below base w w' := by
  rcases ho.2 with ⟨h, _⟩ | ⟨g', cap, cur, hv, hbg, hg, h1, h2, h3, h4⟩
  · cases h
  · injection hv with ha _ hcap
    injection ha with ha
    injection ha with ha
    subst ha hcap
    have hH := holds_of_block (ss := l) hg (by rw [hn, ← Nat.mul_one n]; exact h4)
    have hC := Tryz.slices_Compact_string g 0 c l w hH (by omega) (by omega)
    rw [hn] at hC
    refine Calls.mono hC ?_
    rintro e w' ⟨rfl, q, rfl⟩
    have hcl := Lib.compact_length_le l
    have hgb := grownBy_sorted (w := w) (g := g) (n := q) (os := #[]) (Lib.compact l ++ List.replicate (n - (Lib.compact l).length) []).toArray
    have := ownsRow_sorted (base := base) (g := g) (cap := c) (n := q) (os := #[]) (ss := l) (ts := Lib.compact l ++ List.replicate (n - (Lib.compact l).length) []) (by simp; omega) hbg hg (by omega) h2 h3
    rw [Go.Sort.grow_empty] at this hgb
    refine ⟨rfl, ?_, (Below.refl base w).grown hgb hb (fun k hk => by injection hk with hk; omega)⟩
    obtain ⟨A', c', e', hrd, _⟩ := Rd.owned this
    injection e' with e1 _ _
    subst e1
    rw [txs_enc, txs_app] at hrd
    exact hrd.pre
theorem zeroI (w : World) : (zeroValue 3).run Tryz.prog w = .ok (.int .i64 0) w := by kernel_rfl
theorem owns_map_keep {w w' : World} {k e : TypeId} {b n : Nat} {D : DataW Unit} (h : w.ownsMap Tryz.prog k (plainElem Tryz.prog e) b n D) (hx : Ext w w') : w'.ownsMap Tryz.prog k (plainElem Tryz.prog e) b n D := by
  obtain ⟨es, cl, hb, F, h1, h2⟩ := h
  refine ⟨es, cl, ?_, F, h1, h2⟩
  have hlt : b < w.heap.size := by
    rcases Nat.lt_or_ge b w.heap.size with hlt | hge
    · exact hlt
    · rw [Array.getElem?_eq_none hge] at hb; cases hb
  rw [hx.block b hlt]; exact hb
def Knows (b : List (List UInt8)) (k : Nat) (D : DataW Unit) : Prop := IsMap D ∧ ∀ (j : Nat) (hj : j < b.length), j < k → ∀ z, D.atKey (.string b[j]) z = .lit (.int .i64 (j : Nat))
theorem knows_zero (b : List (List UInt8)) : Knows b 0 (.map []) := ⟨isMap_empty, fun _ _ h => absurd h (Nat.not_lt_zero _)⟩
theorem knows_put (b : List (List UInt8)) (hb : b.Pairwise (· < ·)) (k : Nat) (hk : k < b.length) (D : DataW Unit) (h : Knows b k D) : Knows b (k + 1) (D.put (.string b[k]) (.lit (.int .i64 (k : Nat)))) := by
  refine ⟨h.1.put _ _, fun j hj hjk z => ?_⟩
  rcases Nat.lt_or_ge j k with h1 | h1
  · rw [atKey_put_other]
    · exact h.2 j hj h1 z
    · intro e
      injection e with e
      have := List.pairwise_iff_getElem.1 hb j k hj hk h1
      rw [e] at this
      exact Dct.lt_irr _ this
  · have : j = k := by omega
    subst this
    exact atKey_put_same h.1 (by simp [WideAt.IsKeyLit]) _ _
set_option maxRecDepth 100000 in
set_option maxHeartbeats 3200000 in
theorem dOf_any (l : List (List UInt8)) (A : Option Addr) (n cap : Nat) (w : World) (hn : l.length = n) (hr : Rd w A (txs l)) (hA : A = none → n = 0) (hnl : n ≤ 140737488355328) :
    Calls Tryz.prog 106 #[.slice A n cap] w fun e w' => ∃ B cb C cc, e = .returned (.tuple #[.slice B (Dct.of l).1.length cb, .slice C (Dct.of l).2.1.length cc, .int .i64 ((Dct.of l).2.2 : Nat)]) ∧ Rd w' B (txs (Dct.of l).1) ∧ Rd w' C (u64s (Dct.of l).2.1) ∧ Ext w w' := by
  have CM := hid (dMany_any l A n cap w hn hr hnl)
  have hmm := @run_makeMap Tryz.prog
  have hnI : (n : Int) ≤ 140737488355328 := by omega
  by_cases hm : Dct.mny l = true
  · rw [Dct.of_many hm]
    rw [hm] at CM
    clear hn hr hA hnl hm
    go_enter Tryz.func106, Tryz.ntmps106
    go_wp2_with fail
    refine Calls.mono CM.out ?_
    rintro e _ ⟨rfl, rfl⟩
    go_wp2
    go_returns
    exact ⟨none, 0, none, 0, rfl, fun h => by simp [txs] at h, fun h => by simp [u64s] at h, ext_refl _⟩
  · rw [Bool.not_eq_true] at hm
    rw [hm] at CM
    rw [Dct.of_ok hm]
    obtain ⟨h64, h16⟩ := Dct.mny_false hm
    rcases Nat.eq_zero_or_pos n with h0 | h0
    · subst h0
      obtain rfl := List.eq_nil_of_length_eq_zero hn
      rw [Dct.bk_nil]
      have hcd : Dct.cds [] = [] := rfl
      rw [hcd]
      clear hr hnl hm h64 h16
      cases A with
      | none =>
        go_enter Tryz.func106, Tryz.ntmps106
        go_wp2_with fail
        refine Calls.mono CM.out ?_
        rintro e _ ⟨rfl, rfl⟩
        go_wp2_with fail
        refine Calls.mono (Tryz.slices_Clone_string_nil 0 cap _) ?_
        rintro e _ ⟨rfl, rfl⟩
        go_wp2_with fail
        refine Calls.mono (Tryz.slices_Sort_string_none none 0 _) ?_
        rintro e _ ⟨rfl, rfl⟩
        go_wp2_with fail
        refine Calls.mono (Tryz.slices_Compact_string_empty none 0 _) ?_
        rintro e _ ⟨rfl, rfl⟩
        go_wp2
        refine wp_loop_rounds 1 ?_
        rw [rounds_succ]
        go_wp2
        refine wp_loop_rounds 1 ?_
        rw [rounds_succ]
        go_wp2
        go_returns
        exact ⟨none, 0, none, 0, rfl, fun h => by simp [txs] at h, fun h => by simp [u64s] at h, (ext_refl _).new _⟩
      | some a =>
        go_enter Tryz.func106, Tryz.ntmps106
        go_wp2_with fail
        refine Calls.mono CM.out ?_
        rintro e _ ⟨rfl, rfl⟩
        go_wp2_with fail
        refine Calls.mono (Tryz.slices_Clone_string_zero a cap _) ?_
        rintro e w1 ⟨v, rfl, hown, _, hx⟩
        obtain ⟨A1, c1, rfl, _⟩ := Rd.owned hown
        have X1 := hid hx
        clear hown hx
        go_wp2_with fail
        refine Calls.mono (Tryz.slices_Sort_string_none A1 c1 _) ?_
        rintro e _ ⟨rfl, rfl⟩
        go_wp2_with fail
        refine Calls.mono (Tryz.slices_Compact_string_empty A1 c1 _) ?_
        rintro e _ ⟨rfl, rfl⟩
        go_wp2
        refine wp_loop_rounds 1 ?_
        rw [rounds_succ]
        go_wp2
        refine wp_loop_rounds 1 ?_
        rw [rounds_succ]
        go_wp2
        go_returns
        exact ⟨A1, c1, none, 0, rfl, fun h => by simp [txs] at h, fun h => by simp [u64s] at h, Ext.new X1.out _⟩
    · obtain ⟨b0, o0, e0, l0, c0⟩ := hr.texts 0 (by omega)
      subst e0
      have HCL := hid (Tryz.slices_Clone_string b0 o0 n cap (l.map fun b => (⟨b.toArray⟩ : ByteArray)) w (by rw [List.length_map, hn]; exact Nat.le_refl _) (by omega) (fun j hj => by
        rw [List.length_map] at hj
        rw [c0 j hj, List.getD_eq_getElem?_getD, List.getElem?_map, List.getElem?_eq_getElem hj]; rfl))
      rw [show ((l.map fun b => (⟨b.toArray⟩ : ByteArray)).take n).map Value.string = txs l by
        rw [List.take_of_length_le (by rw [List.length_map, hn]; exact Nat.le_refl _), List.map_map]; rfl] at HCL
      have HSL := hid (Dct.srt_len l)
      have HBK := hid (Dct.bk_eq l)
      have HSP := hid (Dct.bk_spec l)
      have hbl := Dct.bk_len l
      have HCD := hid (show Dct.cds l = l.map (Dct.plc (Dct.bk l)) from rfl)
      obtain ⟨b, hb⟩ : ∃ b, b = Dct.bk l := ⟨_, rfl⟩
      obtain ⟨S, hS⟩ : ∃ S, S = Dct.srt l := ⟨_, rfl⟩
      rw [← hb] at HSP hbl HCD HBK ⊢
      rw [← hS] at HBK HSL
      have HSS := hid hS
      have HB16 := hid (show ∀ s ∈ b, s.length ≤ 16 from fun s hs => h16 s ((HSP.out.2 s).1 hs))
      obtain ⟨m, hmm2⟩ : ∃ m, m = b.length := ⟨_, rfl⟩
      have HM := hid hmm2
      have hmI : (m : Int) ≤ 64 := by omega
      have hn64 : (n : Int) ≤ 64 := by omega
      have HN := hid hn
      have HR := hid hr
      have HN64 := hid (show n ≤ 64 by omega)
      have H16 := hid h16
      have HN0 := hid h0
      have HCDL := hid (Dct.cds_len l)
      rw [hn] at HCDL
      generalize Dct.cds l = cd at *
      clear hn hr hA hnl hm h64 h16 h0 l0 c0 hb hS hbl hnI hmm2
      go_enter Tryz.func106, Tryz.ntmps106
      go_wp2_with fail
      refine Calls.mono CM.out ?_
      rintro e _ ⟨rfl, rfl⟩
      go_wp2_with fail
      refine Calls.mono HCL.out ?_
      rintro e w1 ⟨v, rfl, hown, _, hx⟩
      obtain ⟨g, c, rfl, hbg, _⟩ := own_base hown HN0.out
      have HO1 := hid hown
      have X1 := hid hx
      clear hown hx
      go_wp2_with fail
      refine Calls.mono (dSort_own l n g c _ _ HN.out HO1.out HN64.out X1.out.size) ?_
      rintro e w2 ⟨rfl, hown, hx⟩
      rw [← HSS.out] at hown
      have HO2 := hid hown
      have X2 := hid (X1.out.trans hx)
      clear hown hx HO1 X1
      go_wp2_with fail
      refine Calls.mono (dCompact_own S n g c _ _ (by rw [HSL.out, HN.out]) HO2.out HN64.out X2.out.size) ?_
      rw [HBK.out]
      rintro e w3 ⟨rfl, hrd, hx⟩
      have HRB := hid hrd
      have X3 := hid (X2.out.trans hx)
      clear hrd hx HO2 X2
      rw [← HM.out]
      go_wp2
      go_loopw [23] (fun ix wr => ∃ (k : Nat) (D : DataW Unit), k ≤ m ∧ ix = .int .i64 k ∧ Hid (wr.ownsMap Tryz.prog 9 (plainElem Tryz.prog 3) w3.heap.size k D) ∧ Hid (Knows b k D) ∧ Hid (Ext w3 wr)) (fun ix _ => m - (intOf ix).toNat)
      case atStart => exact ⟨0, .map [], Nat.zero_le _, rfl, hid (World.ownsMap_made _ _ _ _), hid (knows_zero b), hid ((ext_refl _).new _)⟩
      case round =>
        obtain ⟨k, D, hk, rfl, HO, HK, HX⟩ := hrel
        by_cases hlt : k < m
        · have hltI : (k : Int) < (m : Int) := by omega
          have hkb : k < b.length := by rw [← HM.out]; exact hlt
          obtain ⟨b1, o1, e1, l1, c1⟩ := (HRB.out.keep HX.out).texts k hkb
          cases e1
          have d0 := c1 k hkb
          rw [Nat.zero_add] at d0
          have hkey : keyOf Tryz.prog 9 (.string ⟨b[k].toArray⟩) = some (.string b[k]) := by
            have := Go.WideMaps.keyOf_string_mk (P := Tryz.prog) Tryz.underlying9 (s := ⟨b[k].toArray⟩) (by rw [str_size]; have := HB16.out _ (List.getElem_mem hkb); unfold maxLen; omega)
            exact this
          have HKN := hid (knows_put b HSP.out.1 k hkb D HK.out)
          obtain ⟨s, hs⟩ : ∃ s : ByteArray, s = ⟨b[k].toArray⟩ := ⟨_, rfl⟩
          rw [← hs] at d0 hkey
          have HKM := hid (show k < maxLen by have := HN64.out; unfold maxLen; omega)
          generalize b[k] = kt at *
          clear c1 hs hkb
          go_wp2_with (at_mapUpdate; refine wpList_mapUpdate_own _ rfl _ _ _ 153 rfl 9 3 (string_keyed Tryz.underlying9) Tryz.underlying153 _ w3.heap.size k _ rfl HO.out HKM.out _ _ _ rfl rfl hkey _ [] (plainElem_int Tryz.underlying3 (WalkArith.wf_i64 (by omega))) ?_; intro w5 hown5 hgrow5; have HO5 := hid hown5; have HX5 := hid (HX.out.grown hgrow5 HX.out.size (fun j hj => by cases hj; exact Nat.le_refl _)); clear hown5 hgrow5)
          go_roundw
          case rel => exact ⟨k + 1, _, by omega, by go_num, HO5, HKN, HX5⟩
          case measure => simp [intOf] <;> omega
        · obtain rfl : k = m := by omega
          clear hlt
          have HOM := HO
          have HXM := HX
          clear HO HX
          go_wp2
          go_loopw [9, 34] (fun v ix ws => ∃ i : Nat, i ≤ n ∧ ix = .int .i64 i ∧ Hid (ws.ownsRow wr.heap.size 34 1 v i (u64s ((l.take i).map (Dct.plc b)))) ∧ Hid (Ext wr ws)) (fun _ ix _ => n - (intOf ix).toNat)
          case atStart => exact ⟨0, Nat.zero_le _, rfl, hid (World.ownsRow_nil _ _ _ _), hid (ext_refl _)⟩
          case round =>
            obtain ⟨i, hi, rfl, HO, HX⟩ := hrel
            obtain ⟨A3, c3, rfl, hrd3, _⟩ := Rd.owned HO.out
            have XA := hid (Ext.then (X3.out.trans (HXM.out.mono X3.out.size)) HX.out)
            by_cases hlt : i < n
            · have hltI : (i : Int) < (n : Int) := by omega
              have hil : i < l.length := by rw [HN.out]; exact hlt
              obtain ⟨b1, o1, e1, l1, c1⟩ := (HR.out.keep XA.out).texts i hil
              cases e1
              have d0 := c1 i hil
              have hkey : keyOf Tryz.prog 9 (.string ⟨l[i].toArray⟩) = some (.string l[i]) := by
                have := Go.WideMaps.keyOf_string_mk (P := Tryz.prog) Tryz.underlying9 (s := ⟨l[i].toArray⟩) (by rw [str_size]; have := H16.out _ (List.getElem_mem hil); unfold maxLen; omega)
                exact this
              have hmem := (HSP.out.2 l[i]).2 (List.getElem_mem hil)
              have hpl := Dct.plc_lt HSP.out.1 hmem
              have hat : ∀ z, D.atKey (.string l[i]) z = .lit (.int .i64 (Dct.plc b l[i] : Nat)) := fun z => by
                have h1 := HK.out.2 _ hpl (by rw [HM.out]; exact hpl) z
                have h2 := Dct.plc_mem HSP.out.1 hmem
                rw [List.getElem?_eq_getElem hpl] at h2
                injection h2 with h2
                rw [h2] at h1; exact h1
              have HS := hid (show (l.take (i + 1)).map (Dct.plc b) = (l.take i).map (Dct.plc b) ++ [Dct.plc b l[i]] by rw [List.take_succ_eq_append_getElem hil, List.map_append]; rfl)
              obtain ⟨s, hs⟩ : ∃ s : ByteArray, s = ⟨l[i].toArray⟩ := ⟨_, rfl⟩
              rw [← hs] at d0 hkey
              have hpI : (Dct.plc b l[i] : Int) ≤ 64 := by rw [HM.out] at hmI; omega
              generalize Dct.plc b l[i] = p at *
              generalize l[i] = kt at *
              have HAT := hid (hat (.lit (.int .i64 0)))
              have HI := hid (show i ≤ 64 by have := HN64.out; omega)
              have hwp : IntKind.u64.wrap (p : Int) = (p : Int) := by rw [IntKind.wrap_u64]; omega
              have HOK := hid (owns_map_keep HOM.out HX.out)
              generalize (l.take i).map (Dct.plc b) = L at *
              clear c1 hs hil hmem hpl hat hrd3
              go_wp2_with (first
                | (at_lookup; refine wpList_lookup_own_int _ rfl _ _ 153 rfl 9 3 .i64 (string_keyed Tryz.underlying9) Tryz.underlying153 Tryz.underlying3 (zeroI _) w3.heap.size k _ rfl HOK.out _ _ rfl hkey ?_; intro cz hatz hwc; rw [HAT.out] at hatz; obtain rfl : (p : Int) = cz := (by simpa using hatz); clear hatz hwc)
                | (at_builtin; go_loud (refine wpList_app rfl (.tmp 38) (.tmp 43) rowU64 rfl _ i _ rfl (own_ext HO.out ((ext_refl _).new _)) _ 1 (u64s [p]) rfl (Src.rd Tryz.underlying58 _ 1 1 _ rfl (rd_lit rfl rfl) (u64s_one _) (fun h => by cases h)) (by have := HI.out; unfold maxLen; omega) (by have := HI.out; omega) (by have := HX.out.size; simp; omega) ?_; intro v' w5 hown5 hgrow hat hbel; have HO5 := hid hown5; have HX5 := hid (Below.trans (Ext.new HX.out _) hbel); obtain ⟨A5, c5, rfl, _⟩ := Rd.owned HO5.out; clear hown5 hgrow hat hbel)))
              go_roundw
              case rel => exact ⟨i + 1, by omega, by go_num, hid (by rw [HS.out, u64s_app]; exact HO5.out), HX5⟩
              case measure => simp [intOf] <;> omega
            · obtain rfl : i = n := by omega
              rw [List.take_of_length_le (by rw [HN.out]; exact Nat.le_refl _), ← HCD.out] at hrd3
              have HRC := hid hrd3
              have HRB2 := hid ((HRB.out.keep HXM.out).keep HX.out)
              clear hrd3 hlt
              go_wp2
              go_returns
              exact ⟨_, c, _, c3, by rw [← HM.out, HCDL.out]; rfl, HRB2.out, HRC.out, XA.out⟩
end Go.Proofs.YthgnipangcmanaaGreat
end
section
namespace Go.Proofs.YthgnipangcmanaaGreat
open Go.RowKit Hy
theorem txLess_any (a b : List UInt8) (S U : ByteArray) (hS : S = ⟨a.toArray⟩) (hU : U = ⟨b.toArray⟩) (w : World) (ha : a.length ≤ 140737488355328) (hb : b.length ≤ 140737488355328) (q : Bool) (hq : decide (a < b) = q) :
    Calls Tryz.prog 167 #[.string S, .string U] w fun e w' => e = .returned (.bool q) ∧ Ext w w' := by
  subst hS hU hq
  have h := textLess_any ⟨a.toArray⟩ ⟨b.toArray⟩ w (by rw [str_size]; exact ha) (by rw [str_size]; exact hb)
  rw [Dct.tless_eq] at h
  exact h
set_option maxRecDepth 100000 in
set_option maxHeartbeats 1600000 in
theorem placeOf_any (l : List (List UInt8)) (A : Option Addr) (n cap : Nat) (t : List UInt8) (s : ByteArray) (hs : s = ⟨t.toArray⟩) (w : World) (hn : l.length = n) (hr : Rd w A (txs l)) (hnl : n ≤ 2000000) (hl : ∀ x ∈ l, x.length ≤ 140737488355328) (ht : t.length ≤ 140737488355328) :
    Calls Tryz.prog 137 #[.slice A n cap, .string s] w fun e w' => e = .returned (.int .i64 (Dct.plc (Dct.bk l) t : Nat)) ∧ Ext w w' := by
  have hnI : (n : Int) ≤ 2000000 := by omega
  have HN := hid hn
  have HR := hid hr
  have HL := hid hl
  have HALL := hid (Dct.cntB_all l t)
  have HLE := hid (Dct.cntB_le l t)
  have HST := hid (Dct.cntB_step l t)
  have HT := hid ht
  have HS := hid hs
  rw [hn] at HALL
  clear hn hr hl ht hnl hs
  go_enter Tryz.func137, Tryz.ntmps137
  go_wp2
  go_loopw [5, 6, 7, 8] (fun c ix _ _ wr => ∃ i : Nat, i ≤ n ∧ ix = .int .i64 i ∧ c = .int .i64 (Dct.cntB l t i : Nat) ∧ Hid (Ext w wr)) (fun _ ix _ _ _ => n - (intOf ix).toNat)
  case atStart => exact ⟨0, Nat.zero_le _, rfl, rfl, ext_refl _⟩
  case round =>
    obtain ⟨i, hi, rfl, rfl, HX⟩ := hrel
    have hci := HLE.out i
    by_cases hlt : i < n
    · have hltI : (i : Int) < (n : Int) := by omega
      have hil : i < l.length := by rw [HN.out]; exact hlt
      have HS1 := hid (HST.out i hil)
      obtain ⟨b1, o1, e1, l1, c1⟩ := HR.out.texts 0 (by omega)
      cases e1
      have C1 := hid c1
      have hL1 := hid l1
      have HIL := hid hil
      generalize Dct.cntB l t i = ci at *
      have hcI : (ci : Int) ≤ 2000000 := by omega
      clear c1 l1 hlt hci
      go_wp2
      go_loopw [7, 8] (fun f kx ws => ∃ k : Nat, k ≤ i ∧ kx = .int .i64 k ∧ f = .bool (decide (l[i]'HIL.out ∉ l.take k)) ∧ Hid (Ext w ws)) (fun _ kx _ => i - (intOf kx).toNat)
      case atStart => exact ⟨0, Nat.zero_le _, rfl, by simp, HX⟩
      case round =>
        obtain ⟨k, hk, rfl, rfl, HXX⟩ := hrel
        by_cases hki : k < i
        · have hkiI : (k : Int) < (i : Int) := by omega
          have hkl : k < l.length := by have := HIL.out; omega
          have d0 := (HXX.out.cell (p := ⟨b1, o1 + i, none⟩) hL1.out).trans (C1.out i HIL.out)
          have d1 := (HXX.out.cell (p := ⟨b1, o1 + k, none⟩) hL1.out).trans (C1.out k hkl)
          have hstep : (l[i]'HIL.out ∉ l.take (k + 1)) ↔ (l[i]'HIL.out ∉ l.take k ∧ l[k] ≠ l[i]'HIL.out) := by
            rw [List.take_succ_eq_append_getElem hkl, List.mem_append, List.mem_singleton]
            constructor
            · intro h; exact ⟨fun h2 => h (.inl h2), fun h2 => h (.inr h2.symm)⟩
            · rintro ⟨h1, h2⟩ (h | h)
              · exact h1 h
              · exact h2 h.symm
          have HSTP := hid hstep
          obtain ⟨S0, hS0⟩ : ∃ S : ByteArray, S = ⟨(l[i]'HIL.out).toArray⟩ := ⟨_, rfl⟩
          obtain ⟨S1, hS1⟩ : ∃ S : ByteArray, S = ⟨l[k].toArray⟩ := ⟨_, rfl⟩
          have e0 : S0.toList = l[i]'HIL.out := by rw [hS0, ByteArray.toList_mk]
          have e1 : S1.toList = l[k] := by rw [hS1, ByteArray.toList_mk]
          rw [← hS0] at d0
          rw [← hS1] at d1
          have HE0 := hid e0
          have HE1 := hid e1
          clear hstep hS0 hS1 e0 e1
          by_cases hf : l[i]'HIL.out ∉ l.take k
          · rw [decide_eq_true hf]
            by_cases he : S1.toList = S0.toList
            · have HD := hid (show decide (l[i]'HIL.out ∉ l.take (k + 1)) = false from decide_eq_false fun h => (HSTP.out.1 h).2 (by rw [← HE0.out, ← HE1.out]; exact he))
              have he2 : (S1.toList != S0.toList) = false := by rw [he]; simp
              have he3 : (S1.toList == S0.toList) = true := by rw [he]; simp
              clear hf hki HSTP HE1 hkl
              go_wp2_with fail
              go_quiet (fail)
              go_wp2
              go_roundw
              case rel => exact ⟨k + 1, by omega, by go_num, by rw [HD.out], hid (HXX.out.draws _)⟩
              case measure => simp [intOf] <;> omega
            · have HD := hid (show decide (l[i]'HIL.out ∉ l.take (k + 1)) = true from decide_eq_true (HSTP.out.2 ⟨hf, fun h => he (by rw [HE0.out, HE1.out]; exact h)⟩))
              have he2 : (S1.toList != S0.toList) = true := by rw [bne_iff_ne]; exact he
              have he3 : (S1.toList == S0.toList) = false := by rw [beq_eq_false_iff_ne]; exact he
              clear hf hki HSTP HE1 hkl
              go_wp2_with fail
              go_quiet (fail)
              go_wp2
              go_roundw
              case rel => exact ⟨k + 1, by omega, by go_num, by rw [HD.out], hid (HXX.out.draws _)⟩
              case measure => simp [intOf] <;> omega
          · rw [decide_eq_false hf]
            have HD := hid (show decide (l[i]'HIL.out ∉ l.take (k + 1)) = false from decide_eq_false fun h => hf (HSTP.out.1 h).1)
            clear hf hki HSTP HE1 hkl
            go_wp2_with fail
            go_quiet (fail)
            go_wp2
            go_roundw
            case rel => exact ⟨k + 1, by omega, by go_num, by rw [HD.out], hid (HXX.out.draws _)⟩
            case measure => simp [intOf] <;> omega
        · obtain rfl : k = i := by omega
          have d0 := (HXX.out.cell (p := ⟨b1, o1 + k, none⟩) hL1.out).trans (C1.out k HIL.out)
          by_cases hf : l[k]'HIL.out ∉ l.take k
          · rw [decide_eq_true hf]
            obtain ⟨S0, hS0⟩ : ∃ S : ByteArray, S = ⟨(l[k]'HIL.out).toArray⟩ := ⟨_, rfl⟩
            rw [← hS0] at d0
            have hlen := HL.out _ (List.getElem_mem HIL.out)
            by_cases hl2 : l[k]'HIL.out < t
            · have CT := hid (fun wx => txLess_any (l[k]'HIL.out) t S0 s hS0 HS.out wx hlen HT.out true (decide_eq_true hl2))
              have HD := hid (HS1.out.trans (if_pos ⟨hf, hl2⟩))
              clear hf hS0 hlen hl2 hki
              go_wp2_with fail
              refine Calls.mono (CT.out _) ?_
              rintro e w5 ⟨rfl, hx⟩
              have X5 := hid (HXX.out.then hx)
              clear hx
              go_wp2
              go_roundw
              case rel => exact ⟨k + 1, by omega, by go_num, by rw [HD.out]; go_num, X5⟩
              case measure => simp [intOf] <;> omega
            · have CT := hid (fun wx => txLess_any (l[k]'HIL.out) t S0 s hS0 HS.out wx hlen HT.out false (decide_eq_false hl2))
              have HD := hid (HS1.out.trans (if_neg (fun h => hl2 h.2)))
              clear hf hS0 hlen hl2 hki
              go_wp2_with fail
              refine Calls.mono (CT.out _) ?_
              rintro e w5 ⟨rfl, hx⟩
              have X5 := hid (HXX.out.then hx)
              clear hx
              go_wp2
              go_roundw
              case rel => exact ⟨k + 1, by omega, by go_num, by rw [HD.out], X5⟩
              case measure => simp [intOf] <;> omega
          · rw [decide_eq_false hf]
            have HD := hid (HS1.out.trans (if_neg (fun h => hf h.1)))
            clear hf hki
            go_wp2
            go_roundw
            case rel => exact ⟨k + 1, by omega, by go_num, by rw [HD.out], HXX⟩
            case measure => simp [intOf] <;> omega
    · obtain rfl : i = n := by omega
      clear hlt
      go_wp2
      go_returns
      exact ⟨by rw [← HALL.out]; rfl, HX.out⟩
end Go.Proofs.YthgnipangcmanaaGreat
end
section
namespace Hy.Dct
open Go
def come (cd : List Nat) (k i : Nat) : Bool := (cd.drop i).any (· == k)
theorem come_step (cd : List Nat) (k i : Nat) (hi : i < cd.length) : come cd k i = (decide (cd[i] = k) || come cd k (i + 1)) := by
  unfold come
  rw [List.drop_eq_getElem_cons hi, List.any_cons]
  congr 1
theorem come_end (cd : List Nat) (k i : Nat) (hi : cd.length ≤ i) : come cd k i = false := by unfold come; rw [List.drop_eq_nil_of_le hi]; rfl
theorem come_all (l : List T) (k : Nat) (hk : k < (bk l).length) : come (cds l) k 0 = true := by
  unfold come
  rw [List.drop_zero, List.any_eq_true]
  obtain ⟨i, hi, e⟩ := cds_has l k hk
  exact ⟨k, List.mem_map.2 ⟨l[i], List.getElem_mem hi, e⟩, by simp⟩
end Hy.Dct
namespace Go.Proofs.YthgnipangcmanaaGreat
open Go.RowKit Hy
set_option maxRecDepth 100000 in
set_option maxHeartbeats 3200000 in
theorem bookOf_any (l : List (List UInt8)) (A : Option Addr) (n cap : Nat) (w : World) (hn : l.length = n) (hr : Rd w A (txs l)) (hnl : n ≤ 1048576) (hl : ∀ x ∈ l, x.length ≤ 140737488355328) :
    Calls Tryz.prog 95 #[.slice A n cap] w fun e w' => ∃ B cb C cc, e = .returned (.tuple #[.slice B (Dct.bk l).length cb, .slice C (Dct.cds l).length cc]) ∧ Rd w' B (txs (Dct.bk l)) ∧ Rd w' C (u64s (Dct.cds l)) ∧ Ext w w' := by
  have hnI : (n : Int) ≤ 1048576 := by omega
  have HP := hid (fun (t : List UInt8) (s : ByteArray) (hs : s = ⟨t.toArray⟩) (ht : t.length ≤ 140737488355328) wx (hx : Ext w wx) => placeOf_any l A n cap t s hs wx hn (hr.keep hx) (by omega) hl ht)
  have HN := hid hn
  have HR := hid hr
  have HL := hid hl
  have HNL := hid hnl
  have HBL := hid (Dct.bk_len l)
  have HPL := hid (fun s => Dct.plc_le (Dct.bk l) s)
  have HMC := hid (Dct.mst_cds l)
  have HCA := hid (Dct.come_all l)
  have HCT := hid (Dct.cds_text l)
  have HCL := hid (Dct.cds_len l)
  have HCD := hid (show Dct.cds l = l.map (Dct.plc (Dct.bk l)) from rfl)
  generalize Dct.bk l = bk at *
  generalize Dct.cds l = cd at *
  clear hn hr hl hnl
  go_enter Tryz.func95, Tryz.ntmps95
  go_wp2
  go_loopw [4, 5, 6, 7] (fun v mo ix _ wr => ∃ i : Nat, i ≤ n ∧ ix = .int .i64 i ∧ mo = .int .i64 ((Dct.mst (cd.take i) : Int) - 1) ∧ Hid (wr.ownsRow w.heap.size 34 1 v i (u64s (cd.take i))) ∧ Hid (Ext w wr)) (fun _ _ ix _ _ => n - (intOf ix).toNat)
  case atStart => exact ⟨0, Nat.zero_le _, rfl, rfl, hid (World.ownsRow_nil _ _ _ _), hid (ext_refl _)⟩
  case round =>
    obtain ⟨i, hi, rfl, rfl, HO, HX⟩ := hrel
    obtain ⟨A3, c3, rfl, hrd3, _⟩ := Rd.owned HO.out
    have hml := Dct.mst_le (cd.take i) (n + 1) (fun x hx => by
      have := List.mem_of_mem_take hx
      rw [HCD.out] at this
      obtain ⟨s, _, rfl⟩ := List.mem_map.1 this
      have := HPL.out s; have := HBL.out; have := HN.out; omega)
    by_cases hlt : i < n
    · have hltI : (i : Int) < (n : Int) := by omega
      have hil : i < l.length := by rw [HN.out]; exact hlt
      obtain ⟨b1, o1, e1, l1, c1⟩ := (HR.out.keep HX.out).texts i hil
      cases e1
      have d0 := c1 i hil
      obtain ⟨S0, hS0⟩ : ∃ S : ByteArray, S = ⟨l[i].toArray⟩ := ⟨_, rfl⟩
      rw [← hS0] at d0
      have CP := hid (HP.out l[i] S0 hS0 (HL.out _ (List.getElem_mem hil)) _ HX.out)
      have hpl := HPL.out l[i]
      have hci : cd[i]? = some (Dct.plc bk l[i]) := by rw [HCD.out, List.getElem?_map, List.getElem?_eq_getElem hil]; rfl
      have HS := hid (show cd.take (i + 1) = cd.take i ++ [Dct.plc bk l[i]] by rw [List.take_add_one, hci]; rfl)
      have HMS := hid (Dct.mst_snoc (cd.take i) (Dct.plc bk l[i]))
      have hpI : (Dct.plc bk l[i] : Int) ≤ 1048576 := by have := HBL.out; have := HN.out; omega
      generalize Dct.plc bk l[i] = p at *
      have HI := hid (show i ≤ 1048576 by have := HNL.out; omega)
      have hwp : IntKind.u64.wrap (p : Int) = (p : Int) := by rw [IntKind.wrap_u64]; omega
      generalize cd.take i = L at *
      generalize Dct.mst L = m at *
      have hmI : (m : Int) ≤ 1048577 := by omega
      clear c1 hS0 hil hpl hci hrd3 hml hlt
      by_cases hpm : m ≤ p
      · have hpmI : (m : Int) - 1 < (p : Int) := by omega
        have HMX := hid (show max m (p + 1) = p + 1 by omega)
        go_wp2_with (first
          | (go_at_call 137; refine Calls.mono CP.out ?_; rintro e w4 ⟨rfl, hx⟩; have X4 := hid (HX.out.then hx); have HO4 := hid (own_ext HO.out hx); clear hx)
          | (at_builtin; refine wpList_app rfl (.tmp 23) (.tmp 26) rowU64 rfl _ i _ rfl (own_ext HO4.out ((ext_refl _).new _)) _ 1 (u64s [p]) rfl (Src.rd Tryz.underlying58 _ 1 1 _ rfl (rd_lit rfl rfl) (u64s_one _) (fun h => by cases h)) (by have := HI.out; unfold maxLen; omega) (by have := HI.out; omega) (by have := X4.out.size; simp; omega) ?_; intro v' w5 hown5 hgrow hat hbel; have HO5 := hid hown5; have HX5 := hid (Below.trans (Ext.new X4.out _) hbel); obtain ⟨A5, c5, rfl, _⟩ := Rd.owned HO5.out; clear hown5 hgrow hat hbel))
        go_roundw
        case rel => exact ⟨i + 1, by omega, by go_num, by rw [HS.out, HMS.out, HMX.out]; go_num, hid (by rw [HS.out, u64s_app]; exact HO5.out), HX5⟩
        case measure => simp [intOf] <;> omega
      · have hpmI : ¬ (m : Int) - 1 < (p : Int) := by omega
        have HMX := hid (show max m (p + 1) = m by omega)
        go_wp2_with (first
          | (go_at_call 137; refine Calls.mono CP.out ?_; rintro e w4 ⟨rfl, hx⟩; have X4 := hid (HX.out.then hx); have HO4 := hid (own_ext HO.out hx); clear hx)
          | (at_builtin; refine wpList_app rfl (.tmp 23) (.tmp 26) rowU64 rfl _ i _ rfl (own_ext HO4.out ((ext_refl _).new _)) _ 1 (u64s [p]) rfl (Src.rd Tryz.underlying58 _ 1 1 _ rfl (rd_lit rfl rfl) (u64s_one _) (fun h => by cases h)) (by have := HI.out; unfold maxLen; omega) (by have := HI.out; omega) (by have := X4.out.size; simp; omega) ?_; intro v' w5 hown5 hgrow hat hbel; have HO5 := hid hown5; have HX5 := hid (Below.trans (Ext.new X4.out _) hbel); obtain ⟨A5, c5, rfl, _⟩ := Rd.owned HO5.out; clear hown5 hgrow hat hbel))
        go_roundw
        case rel => exact ⟨i + 1, by omega, by go_num, by rw [HS.out, HMS.out, HMX.out], hid (by rw [HS.out, u64s_app]; exact HO5.out), HX5⟩
        case measure => simp [intOf] <;> omega
    · obtain rfl : i = n := by omega
      have htk : cd.take i = cd := List.take_of_length_le (by rw [HCL.out, HN.out]; exact Nat.le_refl _)
      rw [htk] at hrd3 ⊢
      rw [HMC.out]
      have hbm : bk.length ≤ 1048576 := by have := HBL.out; have := HN.out; have := HNL.out; omega
      have hbI : (bk.length : Int) ≤ 1048576 := by omega
      have HBM := hid hbm
      refine wp_gen (fun w' => Rd w' A3 (u64s cd) ∧ Ext w w') ⟨hrd3, HX.out⟩ ?_
      rintro wb ⟨hrc, hxb⟩
      have HRC := hid hrc
      have HXB := hid hxb
      clear hlt htk hrd3 hml HO hbm hrc hxb HX
      go_wp2
      go_loopw [8, 9, 10] (fun v kx _ ws => ∃ k : Nat, k ≤ bk.length ∧ kx = .int .i64 k ∧ Hid (ws.ownsRow wb.heap.size 9 1 v k (txs (bk.take k))) ∧ Hid (Ext wb ws)) (fun _ kx _ _ => bk.length - (intOf kx).toNat)
      case atStart => exact ⟨0, Nat.zero_le _, rfl, hid (World.ownsRow_nil _ _ _ _), hid (ext_refl _)⟩
      case round =>
        obtain ⟨k, hk, rfl, HO, HXX⟩ := hrel
        obtain ⟨A4, c4, rfl, hrd4, _⟩ := Rd.owned HO.out
        by_cases hkb : k < bk.length
        · have hkI : (k : Int) ≤ (bk.length : Int) - 1 := by omega
          have HKB := hid hkb
          have HC0 := hid (HCA.out k hkb)
          have HCN := hid (Dct.come_end cd k i (by rw [HCL.out, HN.out]; exact Nat.le_refl _))
          have HCS := hid (Dct.come_step cd k)
          have HCB := hid (show ∀ x ∈ cd, x ≤ bk.length from fun x hx => by
            rw [HCD.out] at hx
            obtain ⟨s, _, rfl⟩ := List.mem_map.1 hx
            exact HPL.out s)
          have hkx : (k : Int) ≤ 1048576 := by omega
          clear hkb hrd4
          go_wp2
          go_loopw [8, 10] (fun v jx wt => ∃ j : Nat, j ≤ i ∧ jx = .int .i64 ((j : Int) - 1) ∧ Hid (wt.ownsRow wb.heap.size 9 1 v (k + (Dct.come cd k j).toNat) (txs (bk.take (k + (Dct.come cd k j).toNat)))) ∧ Hid (Ext wb wt)) (fun _ jx _ => (intOf jx + 1).toNat)
          case atStart => exact ⟨i, Nat.le_refl _, rfl, hid (by rw [HCN.out]; exact HO.out), HXX⟩
          case round =>
            obtain ⟨j, hj, rfl, HO3, HX3⟩ := hrel
            by_cases hj0 : 1 ≤ j
            · obtain ⟨p, rfl⟩ : ∃ p, j = p + 1 := ⟨j - 1, by omega⟩
              have hpI : ((p + 1 : Nat) : Int) - 1 = (p : Int) := by omega
              rw [hpI]
              have hp0 : (0 : Int) ≤ (p : Int) := by omega
              have hpb : (p : Int) ≤ 1048576 := by omega
              have hpc : p < cd.length := by rw [HCL.out, HN.out]; omega
              have hpl : p < l.length := by rw [HN.out]; omega
              obtain ⟨b1, o1, e1, l1, c1⟩ := (HRC.out.keep HX3.out).nums p hpc
              cases e1
              have d0 := c1 p hpc
              have hst := HCS.out p hpc
              have hcb : cd[p] ≤ 1048576 := by have := HCB.out _ (List.getElem_mem hpc); have := HBM.out; omega
              have hcx : (cd[p] : Int) ≤ 1048576 := by omega
              have HCX := hid (show cd[p] = k → bk[k]? = some l[p] from fun h => HCT.out k p hpl (by
                rw [← h]
                have h2 : cd[p]? = some (Dct.plc bk l[p]) := by rw [HCD.out, List.getElem?_map, List.getElem?_eq_getElem hpl]; rfl
                rw [List.getElem?_eq_getElem hpc] at h2
                injection h2 with h2; exact h2.symm))
              obtain ⟨b2, o2, e2, l2, c2⟩ := (HR.out.keep (Ext.then HXB.out HX3.out)).texts p hpl
              cases e2
              have d1 := c2 p hpl
              generalize cd[p] = x at *
              generalize l[p] = tx at *
              obtain ⟨f, hf⟩ : ∃ f, f = Dct.come cd k (p + 1) := ⟨_, rfl⟩
              rw [← hf] at hst HO3
              clear c1 c2 hpc hpl hf hj0 hcb
              obtain ⟨A5, c5, rfl, _⟩ := Rd.owned HO3.out
              by_cases hxk : x = k
              · subst hxk
                cases f with
                | true =>
                  have HD := hid (show Dct.come cd x p = true by rw [hst]; simp)
                  have hne : (((x + true.toNat : Nat) : Int) == (x : Int)) = false := by rw [beq_eq_false_iff_ne]; show ¬ (((x + 1 : Nat) : Int) = (x : Int)); omega
                  have hne2 : (((x : Int) + 1) == (x : Int)) = false := by rw [beq_eq_false_iff_ne]; omega
                  clear hst
                  simp only [Bool.toNat_true] at HO3 ⊢
                  go_wp2
                  go_roundw
                  case rel => exact ⟨p, by omega, by go_num, hid (by rw [HD.out]; exact HO3.out), HX3⟩
                  case measure => simp [intOf]
                | false =>
                  have HD := hid (show Dct.come cd x p = true by rw [hst]; simp)
                  have HS := hid (show bk.take (x + 1) = bk.take x ++ [tx] by rw [List.take_add_one, HCX.out rfl]; rfl)
                  have hI := hid (show x ≤ 1048576 by omega)
                  clear hst
                  simp only [Bool.toNat_false, Nat.add_zero] at HO3 ⊢
                  go_wp2_with (at_builtin; refine wpList_app rfl (.tmp 57) (.tmp 62) rowTs rfl _ x _ rfl (own_ext HO3.out ((ext_refl _).new _)) _ 1 (txs [tx]) rfl (Src.rd Tryz.underlying64 _ 1 1 _ rfl (rd_lit rfl rfl) (txs_one _) (fun h => by cases h)) (by have := hI.out; unfold maxLen; omega) (by have := hI.out; omega) (by have := HX3.out.size; simp; omega) ?_; intro v' w5 hown5 hgrow hat hbel; have HO5 := hid hown5; have HX5 := hid (Below.trans (Ext.new HX3.out _) hbel); obtain ⟨A6, c6, rfl, _⟩ := Rd.owned HO5.out; clear hown5 hgrow hat hbel)
                  go_roundw
                  case rel => exact ⟨p, by omega, by go_num, hid (by rw [HD.out]; show World.ownsRow _ _ _ _ _ (x + 1) (txs (bk.take (x + 1))); rw [HS.out, txs_app]; exact HO5.out), HX5⟩
                  case measure => simp [intOf]
              · have HD := hid (show Dct.come cd k p = f by rw [hst, decide_eq_false hxk, Bool.false_or])
                have hne : ((x : Int) == (k : Int)) = false := by rw [beq_eq_false_iff_ne]; omega
                clear hst hxk
                go_wp2
                go_roundw
                case rel => exact ⟨p, by omega, by go_num, hid (by rw [HD.out]; exact HO3.out), HX3⟩
                case measure => simp [intOf]
            · obtain rfl : j = 0 := by omega
              rw [HC0.out] at HO3
              simp only [Bool.toNat_true] at HO3
              obtain ⟨A5, c5, rfl, _⟩ := Rd.owned HO3.out
              clear hj0
              go_wp2
              go_roundw
              case rel => exact ⟨k + 1, by have := HKB.out; omega, by go_num, HO3, HX3⟩
              case measure => simp [intOf]; have := HKB.out; omega
        · obtain rfl : k = bk.length := by omega
          rw [List.take_of_length_le (Nat.le_refl _)] at hrd4
          have HR4 := hid hrd4
          have HRC2 := hid (HRC.out.keep HXX.out)
          clear hkb hrd4
          go_wp2
          go_returns
          exact ⟨_, c4, _, c3, by rw [HCL.out, HN.out]; rfl, HR4.out, HRC2.out, HXB.out.then HXX.out⟩
end Go.Proofs.YthgnipangcmanaaGreat
end
