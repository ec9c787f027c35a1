/- Files: at: BinarySearchFunc, Compare: walks. -/
import Derived.Test.YtolhifnlahllnaaDoorFsa
import Derived.Test.YtolhifnlahllnaaDoorDcm
namespace Hy.Fs
open Go
/-- the names of entries -/
def nms (l : List Ent) : List Dct.T := l.map fun x => x.1.data.toList
theorem nms_len (l : List Ent) : (nms l).length = l.length := by simp [nms]
theorem nms_at (l : List Ent) (k : Nat) (h : k < (nms l).length) : (nms l)[k] = (l[k]'(by rw [nms_len] at h; exact h)).1.data.toList := by simp [nms]
/-- which of two texts comes first -/
@[irreducible] def cmpI (a b : Dct.T) : Int := if a < b then -1 else if b < a then 1 else 0
theorem cmpI_lt {a b : Dct.T} (h : a < b) : cmpI a b = -1 := by unfold cmpI; rw [if_pos h]
theorem cmpI_gt {a b : Dct.T} (h : b < a) : cmpI a b = 1 := by unfold cmpI; rw [if_neg (Dct.lt_asy h), if_pos h]
theorem cmpI_eq (a : Dct.T) : cmpI a a = 0 := by unfold cmpI; rw [if_neg (Dct.lt_irr a), if_neg (Dct.lt_irr a)]
end Hy.Fs
namespace Go.Proofs.YtolhifnlahllnaaDoor
open Go.RowKit Hy
set_option maxRecDepth 100000 in
theorem fcNaN_any (s : ByteArray) (w : World) : Calls Tryd.prog 115 #[.string s] w fun e w' => e = .returned (.bool false) ∧ w = w' := by
  go_enter Tryd.func115, Tryd.ntmps115
  go_wp2
  go_returns
  exact ⟨by simp, rfl⟩
set_option maxRecDepth 100000 in
theorem compare_any (a b : ByteArray) (w : World) : Calls Tryd.prog 91 #[.string a, .string b] w fun e w' => e = .returned (.int .i64 (Fs.cmpI a.data.toList b.data.toList)) ∧ w = w' := by
  have H1 := hid (fun wx => fcNaN_any a wx)
  have H2 := hid (fun wx => fcNaN_any b wx)
  have hab := Dct.bless a.data.toList b.data.toList
  rw [← ByteArray.toList_eq, ← ByteArray.toList_eq] at hab
  rcases Dct.tot3 a.data.toList b.data.toList with h | h | h
  · rw [Fs.cmpI_lt h]
    rw [ByteArray.toList_eq a, ByteArray.toList_eq b, decide_eq_true h, ← ByteArray.toList_eq a, ← ByteArray.toList_eq b] at hab
    clear h
    go_enter Tryd.func91, Tryd.ntmps91
    go_wp2_with (first | (refine Calls.mono (H1.out _) ?_; rintro e _ ⟨rfl, rfl⟩) | (refine Calls.mono (H2.out _) ?_; rintro e _ ⟨rfl, rfl⟩))
    go_returns
    exact ⟨rfl, rfl⟩
  · rw [h, Fs.cmpI_eq]
    obtain rfl : a = b := ByteArray.ext (Array.ext' h)
    rw [ByteArray.toList_eq a, decide_eq_false (Dct.lt_irr _), ← ByteArray.toList_eq a] at hab
    clear h H2
    go_enter Tryd.func91, Tryd.ntmps91
    go_wp2_with (refine Calls.mono (H1.out _) ?_; rintro e _ ⟨rfl, rfl⟩)
    go_returns
    exact ⟨rfl, rfl⟩
  · rw [Fs.cmpI_gt h]
    rw [ByteArray.toList_eq a, ByteArray.toList_eq b, decide_eq_false (Dct.lt_asy h), ← ByteArray.toList_eq a, ← ByteArray.toList_eq b] at hab
    have hne : (a.toList == b.toList) = false := by
      rw [ByteArray.toList_eq a, ByteArray.toList_eq b, beq_eq_false_iff_ne]
      intro e; rw [e] at h; exact Dct.lt_irr _ h
    have hne2 : ¬ a.toList = b.toList := beq_eq_false_iff_ne.1 hne
    clear h
    go_enter Tryd.func91, Tryd.ntmps91
    go_wp2_with (first | (refine Calls.mono (H1.out _) ?_; rintro e _ ⟨rfl, rfl⟩) | (refine Calls.mono (H2.out _) ?_; rintro e _ ⟨rfl, rfl⟩))
    go_returns
    exact ⟨rfl, rfl⟩
set_option maxRecDepth 100000 in
theorem at1_any (x : Ent) (s : ByteArray) (w : World) :
    Calls Tryd.prog 90 #[entV x, .string s] w fun e w' => e = .returned (.int .i64 (Fs.cmpI x.1.data.toList s.data.toList)) ∧ Ext w w' := by
  obtain ⟨t, j⟩ := x
  have H := hid (fun wx => compare_any t s wx)
  show Calls _ _ #[.agg #[.string t, .int .i64 j], .string s] w _
  simp only
  generalize Fs.cmpI t.data.toList s.data.toList = q at *
  go_enter Tryd.func90, Tryd.ntmps90
  go_wp2_with fail
  refine Calls.mono (H.out _) ?_
  rintro e _ ⟨rfl, rfl⟩
  go_wp2
  go_returns
  exact ⟨rfl, (ext_refl _).new _⟩
set_option maxHeartbeats 1600000 in
set_option maxRecDepth 100000 in
theorem bsf_any (l : List Ent) (A : Option Addr) (n cap : Nat) (s : ByteArray) (w : World) (hn : l.length = n) (hr : Rd w A (ens l)) (hnl : n ≤ 140737488355328) (hb : (Fs.nms l).Pairwise (· < ·)) :
    Calls Tryd.prog 89 #[.slice A n cap, .string s, .func (.func 90) #[] #[]] w fun e w' => e = .returned (.tuple #[.int .i64 (Dct.plc (Fs.nms l) s.data.toList : Nat), .bool (decide (s.data.toList ∈ Fs.nms l))]) ∧ Ext w w' := by
  have hnI : (n : Int) ≤ 140737488355328 := by omega
  have HN := hid hn
  have HR := hid hr
  obtain ⟨b, hbb, HB0, HBL0, HBA0⟩ : ∃ b : List Dct.T, b = Fs.nms l ∧ b.Pairwise (· < ·) ∧ b.length = l.length ∧ (∀ k (hk : k < b.length) (hk2 : k < l.length), b[k] = l[k].1.data.toList) := ⟨_, rfl, hb, Fs.nms_len l, fun k hk hk2 => Fs.nms_at l k hk⟩
  have HB := hid HB0
  have HBL := hid HBL0
  have HBA := hid HBA0
  obtain ⟨L, hL⟩ : ∃ L, L = s.data.toList := ⟨_, rfl⟩
  have HC := hid (fun (x : Ent) wx => at1_any x s wx)
  rw [← hL] at HC ⊢
  rw [← hbb]
  clear hn hr hb hnl hbb hL HB0 HBL0 HBA0
  go_enter Tryd.func89, Tryd.ntmps89
  go_wp2
  go_loopw [9, 10, 11] (fun x y _ wr => ∃ i j : Nat, i ≤ j ∧ j ≤ n ∧ x = .int .i64 i ∧ y = .int .i64 j ∧ Hid (∀ k (hk : k < b.length), k < i → b[k] < L) ∧ Hid (∀ k (hk : k < b.length), j ≤ k → ¬ b[k] < L) ∧ Hid (Ext w wr)) (fun x y _ _ => (intOf y).toNat - (intOf x).toNat)
  case atStart => exact ⟨0, n, Nat.zero_le _, Nat.le_refl _, rfl, rfl, hid (fun k _ h => absurd h (Nat.not_lt_zero _)), hid (fun k hk h => absurd hk (by rw [HBL.out, HN.out]; omega)), hid (ext_refl _)⟩
  case round =>
    obtain ⟨i, j, hij, hjn, rfl, rfl, H1, H2, HX⟩ := hrel
    by_cases hlt : i < j
    · have hltI : (i : Int) < (j : Int) := by omega
      obtain ⟨h, hh⟩ : ∃ h, h = (i + j) / 2 := ⟨_, rfl⟩
      have hhI : ((i : Int) + (j : Int)) / 2 = (h : Int) := by omega
      have hih : (i : Int) ≤ (h : Int) := by omega
      have hhj : (h : Int) < (j : Int) := by omega
      have hh2 : ((i : Int) + (j : Int)) / 2 ^ 1 = (h : Int) := by omega
      have hhl : h < l.length := by rw [HN.out]; omega
      have hhn : h < b.length := by rw [HBL.out]; exact hhl
      have hw1 : IntKind.u64.wrap ((i : Int) + (j : Int)) = (i : Int) + (j : Int) := by rw [IntKind.wrap_u64]; omega
      obtain ⟨b1, o1, e1, l1, c1⟩ := HR.out.ents h hhl
      subst e1
      have d0 := ext_cell HX.out (c1 h hhl).1
      have d1 := ext_cell HX.out (c1 h hhl).2
      have hbh := HBA.out h hhn hhl
      have HIJ := hid (show h < j by omega)
      have HHI := hid (show i ≤ h by omega)
      have CL := hid (fun wx => HC.out l[h] wx)
      rw [← hbh] at CL
      generalize l[h] = x at *
      obtain ⟨t, node⟩ := x
      simp only at d0 d1
      by_cases hl : b[h] < L
      · rw [Fs.cmpI_lt hl] at CL
        have H1n := hid (show ∀ k (hk : k < b.length), k < h + 1 → b[k] < L from fun k hk hkh => Dct.up_lt HB.out (show k ≤ h by omega) hhn hl)
        clear hh c1 hbh hl hhn hhl hlt
        go_wp2_with (go_at_call 90; go_loud (refine (CL.out _).mono ?_; rintro e w2 ⟨rfl, x2⟩; have X2 := hid (HX.out.then x2); clear x2))
        go_roundw
        case rel => exact ⟨h + 1, j, by have := HIJ.out; omega, hjn, by go_num, rfl, H1n, H2, X2⟩
        case measure => simp [intOf]; have := HIJ.out; have := HHI.out; omega
      · obtain ⟨q, hq⟩ : ∃ q, q = Fs.cmpI b[h] L := ⟨_, rfl⟩
        rw [← hq] at CL
        have hq0 : 0 ≤ q := by
          rw [hq]; unfold Fs.cmpI; rw [if_neg hl]; split <;> omega
        have H2n := hid (show ∀ k (hk : k < b.length), h ≤ k → ¬ b[k] < L from fun k hk hkh => Dct.up_ge HB.out hkh hk hl)
        clear hh c1 hbh hl hhn hhl hlt hq
        go_wp2_with (go_at_call 90; go_loud (refine (CL.out _).mono ?_; rintro e w2 ⟨rfl, x2⟩; have X2 := hid (HX.out.then x2); clear x2))
        go_roundw
        case rel => exact ⟨i, h, HHI.out, by have := HIJ.out; omega, rfl, rfl, H1, H2n, X2⟩
        case measure => simp [intOf]; have := HIJ.out; have := HHI.out; omega
    · obtain rfl : i = j := by omega
      have hp := Dct.plc_of (b := b) (s := L) (i := i) (by rw [HBL.out, HN.out]; exact hjn) H1.out H2.out
      have HP := hid hp
      by_cases hin : i < n
      · have hil : i < l.length := by rw [HN.out]; exact hin
        have hib : i < b.length := by rw [HBL.out]; exact hil
        have hinI : (i : Int) < (n : Int) := by omega
        obtain ⟨b1, o1, e1, l1, c1⟩ := HR.out.ents i hil
        subst e1
        have d0 := ext_cell HX.out (c1 i hil).1
        have d1 := ext_cell HX.out (c1 i hil).2
        have hbh := HBA.out i hib hil
        have CL := hid (fun wx => HC.out l[i] wx)
        rw [← hbh] at CL
        generalize l[i] = x at *
        obtain ⟨t, node⟩ := x
        simp only at d0 d1
        by_cases he : b[i] = L
        · have hm : L ∈ b := by rw [← he]; exact List.getElem_mem hib
          have HM := hid (decide_eq_true hm)
          rw [he, Fs.cmpI_eq] at CL
          clear hp c1 he hm hib hil hlt hin hbh
          go_wp2_with (go_at_call 90; go_loud (refine (CL.out _).mono ?_; rintro e w2 ⟨rfl, x2⟩; have X2 := hid (HX.out.then x2); clear x2))
          go_returns
          exact ⟨by rw [HP.out, HM.out]; rfl, X2.out⟩
        · have hm : L ∉ b := fun hm => by
            obtain ⟨k, hk, rfl⟩ := List.mem_iff_getElem.1 hm
            have := Dct.plc_at HB.out hk
            rw [this] at hp
            subst hp; exact he rfl
          have HM := hid (decide_eq_false hm)
          obtain ⟨q, hq⟩ : ∃ q, q = Fs.cmpI b[i] L := ⟨_, rfl⟩
          rw [← hq] at CL
          have hq0 : (q == 0) = false := by
            rw [beq_eq_false_iff_ne, hq]; unfold Fs.cmpI
            rcases Dct.tot3 b[i] L with h | h | h
            · rw [if_pos h]; omega
            · exact absurd h he
            · rw [if_neg (Dct.lt_asy h), if_pos h]; omega
          clear hp c1 he hm hib hil hlt hin hbh hq
          go_wp2_with (go_at_call 90; go_loud (refine (CL.out _).mono ?_; rintro e w2 ⟨rfl, x2⟩; have X2 := hid (HX.out.then x2); clear x2))
          go_returns
          exact ⟨by rw [HP.out, HM.out]; try rfl, X2.out⟩
      · have hm : L ∉ b := fun hm => by
          have := Dct.plc_lt HB.out hm
          rw [hp, HBL.out, HN.out] at this; exact hin this
        have HM := hid (decide_eq_false hm)
        have hinI : (n : Int) ≤ (i : Int) := by omega
        clear hp hm hlt hin
        go_wp2
        go_returns
        exact ⟨by rw [HP.out, HM.out]; rfl, HX.out⟩
theorem at_any (l : List Ent) (A : Option Addr) (n cap : Nat) (s : ByteArray) (w : World) (hn : l.length = n) (hr : Rd w A (ens l)) (hnl : n ≤ 140737488355328) (hb : (Fs.nms l).Pairwise (· < ·)) :
    Calls Tryd.prog 36 #[.slice A n cap, .string s] w fun e w' => e = .returned (.tuple #[.int .i64 (Dct.plc (Fs.nms l) s.data.toList : Nat), .bool (decide (s.data.toList ∈ Fs.nms l))]) ∧ Ext w w' := by
  have H := hid (fun wx (hx : w = wx) => bsf_any l A n cap s wx hn (hx ▸ hr) hnl hb)
  generalize Dct.plc (Fs.nms l) s.data.toList = p at *
  generalize decide (s.data.toList ∈ Fs.nms l) = q at *
  clear hn hr hnl hb
  go_enter Tryd.func36, Tryd.ntmps36
  go_wp2_with fail
  refine Calls.mono (H.out _ rfl) ?_
  rintro e w2 ⟨rfl, hx⟩
  have X := hid hx
  clear hx
  go_wp2
  go_returns
  exact ⟨rfl, X.out⟩
end Go.Proofs.YtolhifnlahllnaaDoor
