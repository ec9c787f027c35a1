/- Dict: Find, Span and what they search by: walks (printed by gen_dcb.py). -/
import Derived.Test.YtpheegfanljeeaaDca
namespace Hy.Dct
open Go
theorem cnt_of (b : List T) (p : T → Bool) (i : Nat) (hi : i ≤ b.length) (h1 : ∀ k (hk : k < b.length), k < i → p b[k] = true) (h2 : ∀ k (hk : k < b.length), i ≤ k → p b[k] = false) : b.countP p = i := by
  induction b generalizing i with
  | nil => simp at hi; subst hi; rfl
  | cons x b ih =>
    cases i with
    | zero =>
      refine List.countP_eq_zero.2 fun y hy => ?_
      obtain ⟨k, hk, rfl⟩ := List.mem_iff_getElem.1 hy
      rw [h2 k hk (Nat.zero_le _)]; decide
    | succ i =>
      rw [List.countP_cons, ih i (by simpa using hi) (fun k hk hki => h1 (k + 1) (by simpa using hk) (by omega)) (fun k hk hki => h2 (k + 1) (by simpa using hk) (by omega))]
      have := h1 0 (by simp) (by omega)
      simp only [List.getElem_cons_zero] at this
      rw [this]; rfl
theorem plc_of {b : List T} {s : T} {i : Nat} (hi : i ≤ b.length) (h1 : ∀ k (hk : k < b.length), k < i → b[k] < s) (h2 : ∀ k (hk : k < b.length), i ≤ k → ¬ b[k] < s) : plc b s = i := by
  rw [plc_eq]; exact cnt_of b _ i hi (fun k hk h => decide_eq_true (h1 k hk h)) (fun k hk h => decide_eq_false (h2 k hk h))
theorem ple_of {b : List T} {s : T} {i : Nat} (hi : i ≤ b.length) (h1 : ∀ k (hk : k < b.length), k < i → ¬ s < b[k]) (h2 : ∀ k (hk : k < b.length), i ≤ k → s < b[k]) : ple b s = i := by
  unfold ple
  refine cnt_of b _ i hi (fun k hk h => decide_eq_true (List.not_lt.1 (h1 k hk h))) (fun k hk h => decide_eq_false fun h3 => ?_)
  rcases tot3 b[k] s with h4 | h4 | h4
  · exact lt_asy h4 (h2 k hk h)
  · have := h2 k hk h; rw [h4] at this; exact lt_irr _ this
  · exact List.not_lt.2 h3 h4
theorem asc_le {b : List T} (hb : b.Pairwise (· < ·)) {i k : Nat} (hik : i ≤ k) (hk : k < b.length) : b[i] = b[k]'hk ∨ b[i] < b[k]'hk := by
  rcases Nat.eq_or_lt_of_le hik with h | h
  · subst h; exact .inl rfl
  · exact .inr (List.pairwise_iff_getElem.1 hb i k (by omega) hk h)
theorem up_lt {b : List T} (hb : b.Pairwise (· < ·)) {s : T} {i k : Nat} (hik : k ≤ i) (hi : i < b.length) (h : b[i] < s) : b[k]'(by omega) < s := by
  rcases asc_le hb hik hi with e | e
  · rw [e]; exact h
  · exact lt_tr e h
theorem up_ge {b : List T} (hb : b.Pairwise (· < ·)) {s : T} {i k : Nat} (hik : i ≤ k) (hk : k < b.length) (h : ¬ b[i] < s) : ¬ b[k] < s := fun h2 => h (up_lt hb hik hk h2)
theorem up_gt {b : List T} (hb : b.Pairwise (· < ·)) {s : T} {i k : Nat} (hik : i ≤ k) (hk : k < b.length) (h : s < b[i]) : s < b[k] := by
  rcases asc_le hb hik hk with e | e
  · rw [← e]; exact h
  · exact lt_tr h e
theorem up_ngt {b : List T} (hb : b.Pairwise (· < ·)) {s : T} {i k : Nat} (hik : k ≤ i) (hi : i < b.length) (h : ¬ s < b[i]) : ¬ s < b[k]'(by omega) := fun h2 => h (up_gt hb hik hi h2)
theorem gt_of (a b : T) : decide (b < a) = (!decide (a < b) && !(a == b)) := by
  rcases tot3 a b with h | h | h
  · simp [h, lt_asy h]
  · subst h; simp [lt_irr a]
  · have h1 : a ≠ b := fun e => by subst e; exact lt_irr _ h
    simp [h, lt_asy h, h1]
end Hy.Dct
namespace Go.Proofs.Ytpheegfanljeeaa
open Go.RowKit Hy
theorem sNaN_any (s : ByteArray) (w : World) : Calls Try.prog 91 #[.string s] w fun e w' => e = .returned (.bool false) ∧ w = w' := by
  go_enter Try.func91, Try.ntmps91
  go_wp2
  go_returns
  exact ⟨by simp, rfl⟩
theorem cNaN_any (s : ByteArray) (w : World) : Calls Try.prog 110 #[.string s] w fun e w' => e = .returned (.bool false) ∧ w = w' := by
  go_enter Try.func110, Try.ntmps110
  go_wp2
  go_returns
  exact ⟨by simp, rfl⟩
theorem cLess_any (a b : ByteArray) (p : Bool) (hp : Op.bytesLess a.toList b.toList = p) (w : World) : Calls Try.prog 90 #[.string a, .string b] w fun e w' => e = .returned (.bool p) ∧ w = w' := by
  have H1 := hid (fun wx => cNaN_any a wx)
  have H2 := hid (fun wx => cNaN_any b wx)
  go_enter Try.func90, Try.ntmps90
  go_wp2_with fail
  refine Calls.mono (H1.out _) ?_
  rintro e _ ⟨rfl, rfl⟩
  go_wp2_with (first | (refine Calls.mono (H2.out _) ?_; rintro e _ ⟨rfl, rfl⟩))
  go_returns
  exact ⟨rfl, rfl⟩

set_option maxHeartbeats 1600000 in
set_option maxRecDepth 100000 in
theorem bSearch_any (b : List (List UInt8)) (A : Option Addr) (n cap : Nat) (s : ByteArray) (w : World) (hn : b.length = n) (hr : Rd w A (txs b)) (hnl : n ≤ 64) (hb : b.Pairwise (· < ·)) :
    Calls Try.prog 64 #[.slice A n cap, .string s] w fun e w' => e = .returned (.tuple #[.int .i64 (Dct.plc b s.data.toList : Nat), .bool (decide (s.data.toList ∈ b))]) ∧ Ext w w' := by
  have hnI : (n : Int) ≤ 64 := by omega
  have HN := hid hn
  have HR := hid hr
  have HB := hid hb
  have HNL := hid hnl
  obtain ⟨L, hL⟩ : ∃ L, L = s.data.toList := ⟨_, rfl⟩
  have hsL : s.toList = L := by rw [hL, ByteArray.toList_eq]
  rw [← hL]
  clear hn hr hb hnl
  go_enter Try.func64, Try.ntmps64
  go_wp2
  go_loopw [7, 8, 9] (fun x y _ wr => ∃ i j : Nat, i ≤ j ∧ j ≤ n ∧ x = .int .i64 i ∧ y = .int .i64 j ∧ Hid (∀ k (hk : k < b.length), k < i → b[k] < L) ∧ Hid (∀ k (hk : k < b.length), j ≤ k → ¬ b[k] < L) ∧ w = wr) (fun x y _ _ => (intOf y).toNat - (intOf x).toNat)
  case atStart => exact ⟨0, n, Nat.zero_le _, Nat.le_refl _, rfl, rfl, hid (fun k _ h => absurd h (Nat.not_lt_zero _)), hid (fun k hk h => absurd hk (by rw [HN.out]; omega)), rfl⟩
  case round =>
    obtain ⟨i, j, hij, hjn, rfl, rfl, H1, H2, rfl⟩ := hrel
    by_cases hlt : i < j
    · have hltI : (i : Int) < (j : Int) := by omega
      obtain ⟨h, hh⟩ : ∃ h, h = (i + j) / 2 := ⟨_, rfl⟩
      have hhI : ((i : Int) + (j : Int)) / 2 = (h : Int) := by omega
      have hih : (i : Int) ≤ (h : Int) := by omega
      have hhj : (h : Int) < (j : Int) := by omega
      have hh2 : ((i : Int) + (j : Int)) / 2 ^ 1 = (h : Int) := by omega
      have hhn : h < b.length := by rw [HN.out]; omega
      have hw1 : IntKind.u64.wrap ((i : Int) + (j : Int)) = (i : Int) + (j : Int) := by rw [IntKind.wrap_u64]; omega
      obtain ⟨b1, o1, e1, l1, c1⟩ := HR.out.texts 0 (by omega)
      subst e1
      have d0 := c1 h hhn
      have hbl := Dct.bless b[h] L
      obtain ⟨S, hS⟩ : ∃ S : ByteArray, S = ⟨b[h].toArray⟩ := ⟨_, rfl⟩
      have hSL : S.toList = b[h] := by rw [hS, ByteArray.toList_mk]
      rw [← hS] at d0
      have HIJ := hid (show h < j by omega)
      have HHI := hid (show i ≤ h by omega)
      have HHN := hid hhn
      by_cases hl : b[h] < L
      · replace hbl := hbl.trans (decide_eq_true hl)
        have CL := hid (fun wx => cLess_any S s true (by rw [hSL, hsL]; exact hbl) wx)
        have H1n := hid (show ∀ k (hk : k < b.length), k < h + 1 → b[k] < L from fun k hk hkh => Dct.up_lt HB.out (show k ≤ h by omega) hhn hl)
        clear hh c1 hS hSL hbl hl hhn hlt
        go_wp2_with fail
        refine Calls.mono (CL.out _) ?_
        rintro e _ ⟨rfl, rfl⟩
        go_wp2
        go_roundw
        case rel => exact ⟨h + 1, j, by have := HIJ.out; omega, hjn, by go_num, rfl, H1n, H2, trivial⟩
        case measure => simp [intOf]; have := HIJ.out; have := HHI.out; omega
      · replace hbl := hbl.trans (decide_eq_false hl)
        have CL := hid (fun wx => cLess_any S s false (by rw [hSL, hsL]; exact hbl) wx)
        have H2n := hid (show ∀ k (hk : k < b.length), h ≤ k → ¬ b[k] < L from fun k hk hkh => Dct.up_ge HB.out hkh hk hl)
        clear hh c1 hS hSL hbl hl hhn hlt
        go_wp2_with fail
        refine Calls.mono (CL.out _) ?_
        rintro e _ ⟨rfl, rfl⟩
        go_wp2
        go_roundw
        case rel => exact ⟨i, h, HHI.out, by have := HIJ.out; omega, rfl, rfl, H1, H2n, trivial⟩
        case measure => simp [intOf]; have := HIJ.out; have := HHI.out; omega
    · obtain rfl : i = j := by omega
      have hp := Dct.plc_of (b := b) (s := L) (i := i) (by rw [HN.out]; exact hjn) H1.out H2.out
      have HP := hid hp
      by_cases hin : i < n
      · have hib : i < b.length := by rw [HN.out]; exact hin
        have hinI : (i : Int) < (n : Int) := by omega
        obtain ⟨b1, o1, e1, l1, c1⟩ := HR.out.texts 0 (by omega)
        subst e1
        have d0 := c1 i hib
        obtain ⟨S, hS⟩ : ∃ S : ByteArray, S = ⟨b[i].toArray⟩ := ⟨_, rfl⟩
        have hSL : S.toList = b[i] := by rw [hS, ByteArray.toList_mk]
        rw [← hS] at d0
        have CN1 := hid (fun wx => sNaN_any S wx)
        have CN2 := hid (fun wx => sNaN_any s wx)
        by_cases he : b[i] = L
        · have hm : L ∈ b := by rw [← he]; exact List.getElem_mem hib
          have HM := hid (decide_eq_true hm)
          have hq : S.toList = s.data.toList := by rw [hSL, he, hL]
          clear hp c1 hS hSL he hm hib hlt
          go_wp2_with (first | (refine Calls.mono (CN1.out _) ?_; rintro e _ ⟨rfl, rfl⟩) | (refine Calls.mono (CN2.out _) ?_; rintro e _ ⟨rfl, rfl⟩))
          go_returns
          exact ⟨by rw [HP.out, HM.out]; rfl, ext_refl _⟩
        · have hm : L ∉ b := fun hm => by
            obtain ⟨k, hk, rfl⟩ := List.mem_iff_getElem.1 hm
            have := Dct.plc_at HB.out hk
            rw [this] at hp
            subst hp; exact he rfl
          have HM := hid (decide_eq_false hm)
          have hq : ¬ S.toList = s.data.toList := by rw [hSL, ← hL]; exact he
          have HQB := hid (show (S.toList == s.data.toList) = false from beq_eq_false_iff_ne.2 hq)
          clear hp c1 hS hSL he hm hib hlt
          go_wp2_with (first | (refine Calls.mono (CN1.out _) ?_; rintro e _ ⟨rfl, rfl⟩) | (refine Calls.mono (CN2.out _) ?_; rintro e _ ⟨rfl, rfl⟩))
          go_returns
          exact ⟨by rw [HP.out, HM.out]; show Ending.returned (.tuple #[.int .i64 (i : Int), .bool (S.toList == s.data.toList)]) = _; rw [HQB.out], ext_refl _⟩
      · have hm : L ∉ b := fun hm => by
          have := Dct.plc_lt HB.out hm
          rw [hp, HN.out] at this; exact hin this
        have HM := hid (decide_eq_false hm)
        have hinI : (n : Int) ≤ (i : Int) := by omega
        clear hp hm hlt hin
        go_wp2
        go_returns
        exact ⟨by rw [HP.out, HM.out]; rfl, ext_refl _⟩

set_option maxHeartbeats 800000 in
theorem span1_any (b : List (List UInt8)) (X : ByteArray) (A : Option Addr) (n cap i g1 g2 : Nat) (w : World) (hn : b.length = n) (hr : Rd w A (txs b)) (h1 : w.cell? ⟨g1, 0, none⟩ = some (.slice A n cap)) (h2 : w.cell? ⟨g2, 0, none⟩ = some (.string X)) (hi : i < b.length) :
    Calls Try.prog 66 #[.int .i64 i, .pointer (some ⟨g1, 0, none⟩), .pointer (some ⟨g2, 0, none⟩)] w fun e w' => e = .returned (.bool (!decide (b[i] < X.data.toList))) ∧ Ext w w' := by
  obtain ⟨b1, o1, e1, l1, c1⟩ := hr.texts 0 (by omega)
  subst e1
  have d0 := c1 i hi
  have hiI : (i : Int) < (n : Int) := by omega
  obtain ⟨S, hS⟩ : ∃ S : ByteArray, S = ⟨b[i].toArray⟩ := ⟨_, rfl⟩
  have hSL : S.toList = b[i] := by rw [hS, ByteArray.toList_mk]
  have hXL : X.toList = X.data.toList := ByteArray.toList_eq X
  rw [← hS] at d0
  have hbl := Dct.bless b[i] X.data.toList
  rw [← hSL, ← hXL] at hbl ⊢
  generalize decide (S.toList < X.toList) = q at *
  clear c1 hS hSL hXL hr hn hi
  go_enter Try.func66, Try.ntmps66
  go_wp2_with fail
  go_quiet (fail)
  go_wp2
  go_returns
  exact ⟨rfl, (ext_refl _).draws _⟩
set_option maxHeartbeats 1600000 in
set_option maxRecDepth 100000 in
theorem search1_any (b : List (List UInt8)) (X : ByteArray) (A : Option Addr) (n cap g1 g2 : Nat) (w : World) (hn : b.length = n) (hr : Rd w A (txs b)) (h1 : w.cell? ⟨g1, 0, none⟩ = some (.slice A n cap)) (h2 : w.cell? ⟨g2, 0, none⟩ = some (.string X)) (hnl : n ≤ 64) (hb : b.Pairwise (· < ·)) :
    Calls Try.prog 65 #[.int .i64 n, .func (.func 66) #[] #[.pointer (some ⟨g1, 0, none⟩), .pointer (some ⟨g2, 0, none⟩)]] w fun e w' => e = .returned (.int .i64 (Dct.plc b X.data.toList : Nat)) ∧ Ext w w' := by
  have hnI : (n : Int) ≤ 64 := by omega
  have HC := hid (fun (wx : World) (hx : Ext w wx) (i : Nat) (hi : i < b.length) => span1_any b X A n cap i g1 g2 wx hn (hr.keep hx) (ext_cell hx h1) (ext_cell hx h2) hi)
  have HN := hid hn
  have HB := hid hb
  obtain ⟨L, hL⟩ : ∃ L, L = X.data.toList := ⟨_, rfl⟩
  rw [← hL] at HC
  rw [← hL]
  clear hn hr hb hnl h1 h2 hL
  go_enter Try.func65, Try.ntmps65
  go_wp2
  go_loopw [5, 6, 7] (fun x y _ wr => ∃ i j : Nat, i ≤ j ∧ j ≤ n ∧ x = .int .i64 i ∧ y = .int .i64 j ∧ Hid (∀ k (hk : k < b.length), k < i → b[k] < L) ∧ Hid (∀ k (hk : k < b.length), j ≤ k → ¬ b[k] < L) ∧ Ext w wr) (fun x y _ _ => (intOf y).toNat - (intOf x).toNat)
  case atStart => exact ⟨0, n, Nat.zero_le _, Nat.le_refl _, rfl, rfl, hid (fun k _ h => absurd h (Nat.not_lt_zero _)), hid (fun k hk h => absurd hk (by rw [HN.out]; omega)), ext_refl _⟩
  case round =>
    obtain ⟨i, j, hij, hjn, rfl, rfl, H1, H2, HX⟩ := hrel
    by_cases hlt : i < j
    · have hltI : (i : Int) < (j : Int) := by omega
      obtain ⟨h, hh⟩ : ∃ h, h = (i + j) / 2 := ⟨_, rfl⟩
      have hhI : ((i : Int) + (j : Int)) / 2 = (h : Int) := by omega
      have hih : (i : Int) ≤ (h : Int) := by omega
      have hhj : (h : Int) < (j : Int) := by omega
      have hh2 : ((i : Int) + (j : Int)) / 2 ^ 1 = (h : Int) := by omega
      have hhn : h < b.length := by rw [HN.out]; omega
      have hw1 : IntKind.u64.wrap ((i : Int) + (j : Int)) = (i : Int) + (j : Int) := by rw [IntKind.wrap_u64]; omega
      have HIJ := hid (show h < j by omega)
      have HHI := hid (show i ≤ h by omega)
      have CL := hid (HC.out _ HX h hhn)
      by_cases hl : b[h] < L
      · rw [decide_eq_true hl] at CL
        have H1n := hid (show ∀ k (hk : k < b.length), k < h + 1 → b[k] < L from fun k hk hkh => Dct.up_lt HB.out (show k ≤ h by omega) hhn hl)
        clear hh hl hhn hlt
        go_wp2_with fail
        refine Calls.mono CL.out ?_
        rintro e w2 ⟨rfl, hx⟩
        have X2 := hid (HX.then hx)
        clear hx
        go_wp2
        go_roundw
        case rel => exact ⟨h + 1, j, by have := HIJ.out; omega, hjn, by go_num, rfl, H1n, H2, X2.out⟩
        case measure => simp [intOf]; have := HIJ.out; have := HHI.out; omega
      · rw [decide_eq_false hl] at CL
        have H2n := hid (show ∀ k (hk : k < b.length), h ≤ k → ¬ b[k] < L from fun k hk hkh => Dct.up_ge HB.out hkh hk hl)
        clear hh hl hhn hlt
        go_wp2_with fail
        refine Calls.mono CL.out ?_
        rintro e w2 ⟨rfl, hx⟩
        have X2 := hid (HX.then hx)
        clear hx
        go_wp2
        go_roundw
        case rel => exact ⟨i, h, HHI.out, by have := HIJ.out; omega, rfl, rfl, H1, H2n, X2.out⟩
        case measure => simp [intOf]; have := HIJ.out; have := HHI.out; omega
    · obtain rfl : i = j := by omega
      have HP := hid (Dct.plc_of (b := b) (s := L) (i := i) (by rw [HN.out]; exact hjn) H1.out H2.out)
      clear hlt
      go_wp2
      go_returns
      exact ⟨by rw [HP.out]; rfl, HX⟩
set_option maxHeartbeats 800000 in
theorem span2_any (b : List (List UInt8)) (X : ByteArray) (A : Option Addr) (n cap i g1 g2 : Nat) (w : World) (hn : b.length = n) (hr : Rd w A (txs b)) (h1 : w.cell? ⟨g1, 0, none⟩ = some (.slice A n cap)) (h2 : w.cell? ⟨g2, 0, none⟩ = some (.string X)) (hi : i < b.length) :
    Calls Try.prog 67 #[.int .i64 i, .pointer (some ⟨g1, 0, none⟩), .pointer (some ⟨g2, 0, none⟩)] w fun e w' => e = .returned (.bool (decide (X.data.toList < b[i]))) ∧ Ext w w' := by
  obtain ⟨b1, o1, e1, l1, c1⟩ := hr.texts 0 (by omega)
  subst e1
  have d0 := c1 i hi
  have hiI : (i : Int) < (n : Int) := by omega
  obtain ⟨S, hS⟩ : ∃ S : ByteArray, S = ⟨b[i].toArray⟩ := ⟨_, rfl⟩
  have hSL : S.toList = b[i] := by rw [hS, ByteArray.toList_mk]
  have hXL : X.toList = X.data.toList := ByteArray.toList_eq X
  rw [← hS] at d0
  have hbl := Dct.bless b[i] X.data.toList
  have hbl2 := Dct.bless X.data.toList b[i]
  rw [← hSL, ← hXL] at hbl hbl2 ⊢
  have HQ := hid (Dct.gt_of S.toList X.toList)
  generalize decide (S.toList < X.toList) = q at *
  clear c1 hS hSL hXL hr hn hi
  go_enter Try.func67, Try.ntmps67
  go_wp2_with fail
  go_quiet (fail)
  go_wp2
  go_returns
  exact ⟨by rw [← HQ.out]; rfl, (ext_refl _).draws _⟩
set_option maxHeartbeats 1600000 in
set_option maxRecDepth 100000 in
theorem search2_any (b : List (List UInt8)) (X : ByteArray) (A : Option Addr) (n cap g1 g2 : Nat) (w : World) (hn : b.length = n) (hr : Rd w A (txs b)) (h1 : w.cell? ⟨g1, 0, none⟩ = some (.slice A n cap)) (h2 : w.cell? ⟨g2, 0, none⟩ = some (.string X)) (hnl : n ≤ 64) (hb : b.Pairwise (· < ·)) :
    Calls Try.prog 65 #[.int .i64 n, .func (.func 67) #[] #[.pointer (some ⟨g1, 0, none⟩), .pointer (some ⟨g2, 0, none⟩)]] w fun e w' => e = .returned (.int .i64 (Dct.ple b X.data.toList : Nat)) ∧ Ext w w' := by
  have hnI : (n : Int) ≤ 64 := by omega
  have HC := hid (fun (wx : World) (hx : Ext w wx) (i : Nat) (hi : i < b.length) => span2_any b X A n cap i g1 g2 wx hn (hr.keep hx) (ext_cell hx h1) (ext_cell hx h2) hi)
  have HN := hid hn
  have HB := hid hb
  obtain ⟨L, hL⟩ : ∃ L, L = X.data.toList := ⟨_, rfl⟩
  rw [← hL] at HC
  rw [← hL]
  clear hn hr hb hnl h1 h2 hL
  go_enter Try.func65, Try.ntmps65
  go_wp2
  go_loopw [5, 6, 7] (fun x y _ wr => ∃ i j : Nat, i ≤ j ∧ j ≤ n ∧ x = .int .i64 i ∧ y = .int .i64 j ∧ Hid (∀ k (hk : k < b.length), k < i → ¬ L < b[k]) ∧ Hid (∀ k (hk : k < b.length), j ≤ k → L < b[k]) ∧ Ext w wr) (fun x y _ _ => (intOf y).toNat - (intOf x).toNat)
  case atStart => exact ⟨0, n, Nat.zero_le _, Nat.le_refl _, rfl, rfl, hid (fun k _ h => absurd h (Nat.not_lt_zero _)), hid (fun k hk h => absurd hk (by rw [HN.out]; omega)), ext_refl _⟩
  case round =>
    obtain ⟨i, j, hij, hjn, rfl, rfl, H1, H2, HX⟩ := hrel
    by_cases hlt : i < j
    · have hltI : (i : Int) < (j : Int) := by omega
      obtain ⟨h, hh⟩ : ∃ h, h = (i + j) / 2 := ⟨_, rfl⟩
      have hhI : ((i : Int) + (j : Int)) / 2 = (h : Int) := by omega
      have hih : (i : Int) ≤ (h : Int) := by omega
      have hhj : (h : Int) < (j : Int) := by omega
      have hh2 : ((i : Int) + (j : Int)) / 2 ^ 1 = (h : Int) := by omega
      have hhn : h < b.length := by rw [HN.out]; omega
      have hw1 : IntKind.u64.wrap ((i : Int) + (j : Int)) = (i : Int) + (j : Int) := by rw [IntKind.wrap_u64]; omega
      have HIJ := hid (show h < j by omega)
      have HHI := hid (show i ≤ h by omega)
      have CL := hid (HC.out _ HX h hhn)
      by_cases hl : ¬ L < b[h]
      · rw [decide_eq_false hl] at CL
        have H1n := hid (show ∀ k (hk : k < b.length), k < h + 1 → ¬ L < b[k] from fun k hk hkh => Dct.up_ngt HB.out (show k ≤ h by omega) hhn hl)
        clear hh hl hhn hlt
        go_wp2_with fail
        refine Calls.mono CL.out ?_
        rintro e w2 ⟨rfl, hx⟩
        have X2 := hid (HX.then hx)
        clear hx
        go_wp2
        go_roundw
        case rel => exact ⟨h + 1, j, by have := HIJ.out; omega, hjn, by go_num, rfl, H1n, H2, X2.out⟩
        case measure => simp [intOf]; have := HIJ.out; have := HHI.out; omega
      · rw [decide_eq_true (Classical.not_not.1 hl)] at CL
        have H2n := hid (show ∀ k (hk : k < b.length), h ≤ k → L < b[k] from fun k hk hkh => Dct.up_gt HB.out hkh hk (Classical.not_not.1 hl))
        clear hh hl hhn hlt
        go_wp2_with fail
        refine Calls.mono CL.out ?_
        rintro e w2 ⟨rfl, hx⟩
        have X2 := hid (HX.then hx)
        clear hx
        go_wp2
        go_roundw
        case rel => exact ⟨i, h, HHI.out, by have := HIJ.out; omega, rfl, rfl, H1, H2n, X2.out⟩
        case measure => simp [intOf]; have := HIJ.out; have := HHI.out; omega
    · obtain rfl : i = j := by omega
      have HP := hid (Dct.ple_of (b := b) (s := L) (i := i) (by rw [HN.out]; exact hjn) H1.out H2.out)
      clear hlt
      go_wp2
      go_returns
      exact ⟨by rw [HP.out]; rfl, HX⟩
end Go.Proofs.Ytpheegfanljeeaa
