/- Texts of this claim, put together: walks and plain laws. -/
import Derived.Test.YtdmmodeplfmpnaaGreatZG1
import Derived.Test.YtdmmodeplfmpnaaGreatRows
import Derived.Test.YtdmmodeplfmpnaaGreatProg
import Derived.Test.YtdmmodeplfmpnaaGreatShelf
import Derived.StillTactics
import Derived.StillTailTactics
import Derived.Sort.OwnSorted
import Derived.Maps.Own
import Derived.Maps.OwnOps
section
namespace Hy.Dct
open Go
theorem mny_eq (l : List T) : mny l = !(decide (l.length ≤ 64) && Front.fitB l) := by
  have h := Front.fitB_iff l
  cases hf : Front.fitB l with
  | true =>
    have h1 := h.1 hf
    have : l.any (fun s => decide (16 < s.length)) = false := by
      rw [List.any_eq_false]; intro s hs; have := h1 s hs; simp; omega
    unfold mny; rw [this]
    by_cases h6 : l.length ≤ 64
    · simp [h6]
    · simp [h6]; omega
  | false =>
    have : l.any (fun s => decide (16 < s.length)) = true := by
      rw [List.any_eq_true]
      apply Classical.byContradiction
      intro hn
      have : Front.fitB l = true := h.2 fun s hs => by
        rcases Nat.lt_or_ge 16 s.length with h2 | h2
        · exact absurd ⟨s, hs, decide_eq_true h2⟩ hn
        · exact h2
      rw [this] at hf; cases hf
    unfold mny; rw [this]; simp
end Hy.Dct
namespace Go.Proofs.YtdmmodeplfmpnaaGreat
open Go.RowKit Hy
theorem dLong_any (s : ByteArray) (w : World) : Calls Tryz.prog 125 #[.string s] w fun e w' => e = .returned (.bool (decide (16 < s.size))) ∧ w = w' := by
  have hI : decide ((16 : Int) < (s.size : Int)) = decide (16 < s.size) := by simp; omega
  have HI := hid hI
  clear hI
  go_enter Tryz.func125, Tryz.ntmps125
  go_wp2
  go_returns
  exact ⟨ret_bool HI.out, rfl⟩
set_option maxHeartbeats 400000 in
theorem dIndexFunc_any (l : List (List UInt8)) (A : Option Addr) (n cap : Nat) (w : World) (hn : l.length = n) (hr : Rd w A (txs l)) (hnl : n ≤ 140737488355328) :
    Calls Tryz.prog 147 #[.slice A n cap, .func (.func 125) #[] #[]] w fun e w' => (∃ r : Int, e = .returned (.int .i64 r) ∧ decide (0 ≤ r) = !Front.fitB l) ∧ w = w' := by
  have HN := hid hn
  have HA := hid hr
  have HF := hid (Front.fitB_iff l)
  clear hr hn
  go_enter Tryz.func147, Tryz.ntmps147
  go_wp2
  go_loop [5, 8] (fun _ c => ∃ k : Nat, k ≤ n ∧ c = .int .i64 k ∧ Hid (∀ i (h : i < l.length), i < k → l[i].length ≤ 16)) (fun _ c => n - (intOf c).toNat)
  case atStart => exact ⟨0, Nat.zero_le _, rfl, hid fun i h h2 => absurd h2 (Nat.not_lt_zero _)⟩
  case round =>
    obtain ⟨k, hk, rfl, HT⟩ := hrel
    by_cases hlt : k < n
    · have hka : k < l.length := by rw [HN.out]; exact hlt
      obtain ⟨b1, o1, e1, l1, c1⟩ := HA.out.texts k hka
      subst e1
      have d1 := c1 k hka
      obtain ⟨S, hS⟩ : ∃ S : ByteArray, S = ⟨l[k].toArray⟩ := ⟨_, rfl⟩
      have hz : S.size = l[k].length := by rw [hS, str_size]
      rw [← hS] at d1
      have HZ := hid hz
      clear c1 hS hz
      by_cases h16 : S.size ≤ 16
      · have HT2 : Hid (∀ i (h : i < l.length), i < k + 1 → l[i].length ≤ 16) := hid fun i h h2 => by
          rcases Nat.lt_or_ge i k with h3 | h3
          · exact HT.out i h h3
          · have : i = k := by omega
            subst this
            rw [← HZ.out]; exact h16
        have C : Hid (Calls Tryz.prog 125 #[.string S] w fun e w' => e = .returned (.bool false) ∧ w = w') := by
          have := dLong_any S w
          rw [decide_eq_false (by omega)] at this
          exact hid this
        clear HZ hka h16
        go_wp2_with (go_at_call 125; refine C.out.mono ?_; rintro e w2 ⟨rfl, rfl⟩)
        go_round
        case rel => exact ⟨k + 1, by omega, by go_num, HT2⟩
        case measure => simp [intOf]; omega
      · have hf : Front.fitB l = false := by
          rw [← Bool.not_eq_true, HF.out]
          intro h
          have := h l[k] (List.getElem_mem hka)
          rw [← HZ.out] at this; omega
        have HFF := hid hf
        have C : Hid (Calls Tryz.prog 125 #[.string S] w fun e w' => e = .returned (.bool true) ∧ w = w') := by
          have := dLong_any S w
          rw [decide_eq_true (by omega)] at this
          exact hid this
        clear HZ hka h16 hf
        go_wp2_with (go_at_call 125; refine C.out.mono ?_; rintro e w2 ⟨rfl, rfl⟩)
        go_returns
        exact ⟨⟨_, rfl, by rw [HFF.out]; simp⟩, rfl⟩
    · obtain rfl : k = n := by omega
      have hf : Front.fitB l = true := HF.out.2 fun s hs => by
        obtain ⟨i, hi, rfl⟩ := List.getElem_of_mem hs
        exact HT.out i hi (by rw [← HN.out]; exact hi)
      have HFF := hid hf
      clear hf
      go_wp2
      go_returns
      exact ⟨⟨_, rfl, by rw [HFF.out]; rfl⟩, rfl⟩
theorem dContainsFunc_any (l : List (List UInt8)) (A : Option Addr) (n cap : Nat) (w : World) (hn : l.length = n) (hr : Rd w A (txs l)) (hnl : n ≤ 140737488355328) :
    Calls Tryz.prog 120 #[.slice A n cap, .func (.func 125) #[] #[]] w fun e w' => e = .returned (.bool (!Front.fitB l)) ∧ w = w' := by
  have C := hid (dIndexFunc_any l A n cap w hn hr hnl)
  clear hn hr
  go_enter Tryz.func120, Tryz.ntmps120
  go_wp2_with (go_at_call 147; refine C.out.mono ?_; rintro e w2 ⟨⟨r, rfl, hr⟩, rfl⟩; have HR := hid hr; clear hr)
  go_returns
  exact ⟨by rw [← HR.out]; rfl, rfl⟩
theorem dMany_any (l : List (List UInt8)) (A : Option Addr) (n cap : Nat) (w : World) (hn : l.length = n) (hr : Rd w A (txs l)) (hnl : n ≤ 140737488355328) :
    Calls Tryz.prog 82 #[.slice A n cap] w fun e w' => e = .returned (.bool (Dct.mny l)) ∧ w = w' := by
  have C := hid (dContainsFunc_any l A n cap w hn hr hnl)
  have HM := hid (Dct.mny_eq l)
  rw [hn] at HM
  rw [HM.out]
  by_cases h64 : n ≤ 64
  · have h64I : (n : Int) ≤ 64 := by omega
    rw [decide_eq_true h64]
    clear hn hr hnl HM h64
    generalize Front.fitB l = f at *
    go_enter Tryz.func82, Tryz.ntmps82
    go_wp2_with fail
    refine Calls.mono C.out ?_
    rintro e _ ⟨rfl, rfl⟩
    go_wp2
    go_returns
    exact ⟨by simp; intro h; omega, rfl⟩
  · have h64I : (64 : Int) < (n : Int) := by omega
    rw [decide_eq_false h64]
    clear hn hr hnl HM h64 C
    go_enter Tryz.func82, Tryz.ntmps82
    go_wp2
    go_returns
    exact ⟨rfl, rfl⟩
set_option maxHeartbeats 800000 in
theorem dCheck_any (b : List (List UInt8)) (A : Option Addr) (n cap : Nat) (w : World) (hn : b.length = n) (hr : Rd w A (txs b)) (hnl : n ≤ 140737488355328) :
    Calls Tryz.prog 89 #[.slice A n cap] w fun e w' => e = .returned (.int .i64 (Dct.chk b : Nat)) ∧ Ext w w' := by
  have C := hid (dMany_any b A n cap w hn hr hnl)
  have hnI : (n : Int) ≤ 140737488355328 := by omega
  by_cases hm : Dct.mny b = true
  · rw [hm] at C
    rw [Dct.chk_many hm]
    clear hn hr hnl hm
    go_enter Tryz.func89, Tryz.ntmps89
    go_wp2_with fail
    refine Calls.mono C.out ?_
    rintro e _ ⟨rfl, rfl⟩
    go_wp2
    go_returns
    exact ⟨rfl, ext_refl _⟩
  · rw [Bool.not_eq_true] at hm
    rw [hm] at C
    have H1 := hid (Dct.chk_ok hm)
    have H2 := hid (Dct.chk_state hm)
    have HN := hid hn
    have HR := hid hr
    clear hn hr hnl hm
    generalize Dct.chk b = r at *
    go_enter Tryz.func89, Tryz.ntmps89
    go_wp2_with fail
    refine Calls.mono C.out ?_
    rintro e _ ⟨rfl, rfl⟩
    go_wp2
    go_loopw [3] (fun c wr => ∃ k : Nat, (k ≤ n ∨ k = 0) ∧ c = .int .i64 ((k : Int) + 1) ∧ Hid (Dct.asc (b.take (k + 1)) = true) ∧ Ext w wr) (fun c _ => n + 1 - (intOf c).toNat)
    case atStart => exact ⟨0, .inr rfl, rfl, hid (by cases b <;> rfl), ext_refl _⟩
    case round =>
      obtain ⟨k, hk, rfl, HA, X⟩ := hrel
      by_cases hlt : k + 1 < n
      · have hltI : (k : Int) + 1 < (n : Int) := by omega
        have hk1 : k + 1 < b.length := by rw [HN.out]; exact hlt
        obtain ⟨b1, o1, e1, l1, c1⟩ := (HR.out.keep X).texts 0 (by omega)
        subst e1
        have d0 := c1 k (by omega)
        have d1 := c1 (k + 1) hk1
        have HT := hid (Dct.asc_take b k hk1 HA.out)
        have HB := hid (Dct.bless b[k] b[k + 1])
        have HF := hid (Dct.asc_false_take b (k + 2))
        obtain ⟨S0, hS0⟩ : ∃ S : ByteArray, S = ⟨b[k].toArray⟩ := ⟨_, rfl⟩
        obtain ⟨S1, hS1⟩ : ∃ S : ByteArray, S = ⟨b[k + 1].toArray⟩ := ⟨_, rfl⟩
        have e0 : S0.toList = b[k] := by rw [hS0, ByteArray.toList_mk]
        have e1 : S1.toList = b[k + 1] := by rw [hS1, ByteArray.toList_mk]
        rw [← e0, ← e1] at HB
        rw [← e0, ← e1] at HT
        rw [← hS0] at d0
        rw [← hS1] at d1
        have hkI : (k : Int) ≤ 140737488355328 := by omega
        have hsub : (k : Int) + 1 - 1 = (k : Int) := by omega
        have hk11 : ((k + 1 : Nat) : Int) = (k : Int) + 1 := by omega
        clear c1 hS0 hS1 e0 e1
        by_cases hl : S0.toList < S1.toList
        · rw [decide_eq_true hl] at HT HB
          have hb := HB.out
          clear hl
          go_wp2_with fail
          go_quiet (fail)
          go_wp2
          go_roundw
          case rel => exact ⟨k + 1, by omega, by go_num, HT, X.draws _⟩
          case measure => simp [intOf] <;> omega
        · rw [decide_eq_false hl] at HT HB
          have hb := HB.out
          have HRR := hid (H2.out (HF.out HT.out))
          clear hl
          go_wp2_with fail
          go_quiet (fail)
          go_wp2
          go_returns
          exact ⟨by rw [HRR.out]; rfl, X.draws _⟩
      · have hltI : ¬ (k : Int) + 1 < (n : Int) := by omega
        have ht : b.take (k + 1) = b := List.take_of_length_le (by rw [HN.out]; omega)
        have HRR := hid (H1.out (by have := HA.out; rw [ht] at this; exact this))
        clear ht hlt
        go_wp2
        go_returns
        exact ⟨by rw [HRR.out]; rfl, X⟩
end Go.Proofs.YtdmmodeplfmpnaaGreat
end
section
namespace Go.Proofs.YtdmmodeplfmpnaaGreat
open Go.RowKit Hy
theorem rowTs : RowT Tryz.prog 33 9 1 16 := RowT.mk' (z := .string ⟨#[]⟩) Tryz.underlying33 (by kernel_rfl) rfl (by decide)
set_option maxRecDepth 100000 in
set_option maxHeartbeats 800000 in
theorem dTexts_any (b : List (List UInt8)) (c : List Nat) (A B : Option Addr) (n m cap cap2 : Nat) (w : World) (hn : b.length = n) (hm : c.length = m) (hr : Rd w A (txs b)) (hq : Rd w B (u64s c)) (hc : ∀ x ∈ c, x < 18446744073709551616) (hnl : n ≤ 140737488355328) (hml : m ≤ 140737488355328) :
    Calls Tryz.prog 86 #[.slice A n cap, .slice B m cap2] w (TextsOut (Dct.txt b c).1 (Dct.txt b c).2 w) := by
  have C := hid (dCheck_any b A n cap w hn hr hnl)
  have hcc := Dct.chk_cases b
  have hnI : (n : Int) ≤ 140737488355328 := by omega
  have hmI : (m : Int) ≤ 140737488355328 := by omega
  by_cases h0 : Dct.chk b = 0
  · by_cases h64 : 64 < c.length
    · rw [Dct.txt_many h0 h64]
      rw [h0] at C
      have h64I : (64 : Int) < (m : Int) := by omega
      clear hn hm hr hq hc hnl hml hcc h0 h64
      go_enter Tryz.func86, Tryz.ntmps86
      go_wp2_with fail
      refine Calls.mono C.out ?_
      rintro e w1 ⟨rfl, hx⟩
      have X1 := hid hx
      clear hx
      go_wp2
      go_returns
      exact ⟨none, 0, rfl, fun h => by simp [txs] at h, X1.out⟩
    · have HR3 := hid (fun (j : Nat) (hj : j < c.length) h => @Dct.txt_range b c h0 h64 j hj h)
      have HOK := hid (Dct.txt_ok (b := b) (c := c) h0 h64)
      rw [h0] at C
      have h64I : (m : Int) ≤ 64 := by omega
      have HN := hid hn
      have HM := hid hm
      have HR := hid hr
      have HQ := hid hq
      have HCL := hid hc
      have HML := hid (show m ≤ 64 by omega)
      have hwn : IntKind.u64.wrap (n : Int) = (n : Int) := by rw [IntKind.wrap_u64]; omega
      clear hn hm hr hq hc hnl hml hcc h0 h64
      go_enter Tryz.func86, Tryz.ntmps86
      go_wp2_with fail
      refine Calls.mono C.out ?_
      rintro e w1 ⟨rfl, hx⟩
      have X1 := hid hx
      clear hx
      go_wp2
      go_loopw [7, 24] (fun v ix wr => ∃ i : Nat, i ≤ m ∧ ix = .int .i64 i ∧ Hid (∀ j (hj : j < c.length), j < i → c[j] < b.length) ∧ Hid (wr.ownsRow w1.heap.size 9 1 v i (txs ((c.take i).map fun x => b.getD x []))) ∧ Hid (Ext w1 wr)) (fun _ ix _ => m - (intOf ix).toNat)
      case atStart => exact ⟨0, Nat.zero_le _, rfl, hid (fun j _ h => absurd h (Nat.not_lt_zero _)), hid (World.ownsRow_nil _ _ _ _), hid (ext_refl _)⟩
      case round =>
        obtain ⟨i, hi, rfl, HJ, HO, HX⟩ := hrel
        obtain ⟨A3, c3, rfl, hrd3, _⟩ := Rd.owned HO.out
        by_cases hlt : i < m
        · have hltI : (i : Int) < (m : Int) := by omega
          have hic : i < c.length := by rw [HM.out]; exact hlt
          obtain ⟨b1, o1, e1, l1, c1⟩ := ((HQ.out.keep X1.out).keep HX.out).nums i hic
          subst e1
          have d0 := c1 i hic
          have hxl := HCL.out c[i] (List.getElem_mem hic)
          have hxI : ((c[i] : Nat) : Int) ≤ 18446744073709551615 := by omega
          by_cases hlb : c[i] < b.length
          · have hlbI : ((c[i] : Nat) : Int) < (n : Int) := by rw [← HN.out]; omega
            obtain ⟨b2, o2, e2, l2, c2⟩ := ((HR.out.keep X1.out).keep HX.out).texts c[i] hlb
            subst e2
            have d1 := c2 c[i] hlb
            have HJ2 := hid (show ∀ j (hj : j < c.length), j < i + 1 → c[j] < b.length from fun j hj h => by
              rcases Nat.lt_or_ge j i with h2 | h2
              · exact HJ.out j hj h2
              · have : j = i := by omega
                subst this; exact hlb)
            have HS := hid (show (c.take (i + 1)).map (fun x => b.getD x []) = (c.take i).map (fun x => b.getD x []) ++ [b[c[i]]] by
              rw [List.take_succ_eq_append_getElem hic, List.map_append, List.map_singleton, List.getD_eq_getElem?_getD, List.getElem?_eq_getElem hlb]; rfl)
            generalize b[c[i]] = tx at *
            generalize c[i] = x at *
            have HI := hid (show i ≤ 64 by have := HML.out; omega)
            generalize (c.take i).map (fun x => b.getD x []) = L at *
            clear c1 c2 hxl hlb hic hrd3
            go_wp2_with (at_builtin; refine wpList_app rfl (.tmp 33) (.tmp 38) rowTs rfl _ i _ rfl (own_ext HO.out ((ext_refl _).new _)) _ 1 (txs [tx]) rfl (Src.rd Tryz.underlying33 _ 1 1 _ rfl (rd_lit rfl rfl) (txs_one _) (fun h => by cases h)) (by have := HI.out; unfold maxLen; omega) (by have := HI.out; omega) (by have := HX.out.size; simp; omega) ?_; intro v' w5 hown5 hgrow hat hbel; have HO5 := hid hown5; have HX5 := hid (Below.trans (Ext.new HX.out _) hbel); obtain ⟨A5, c5, rfl, _⟩ := Rd.owned HO5.out; clear hown5 hgrow hat hbel)
            go_roundw
            case rel => exact ⟨i + 1, by omega, by go_num, HJ2, hid (by rw [HS.out, txs_app]; exact HO5.out), HX5⟩
            case measure => simp [intOf] <;> omega
          · have HRR := hid (HR3.out i hic (by omega))
            have hlbI : (n : Int) ≤ ((c[i] : Nat) : Int) := by rw [← HN.out]; omega
            generalize c[i] = x at *
            clear c1 hxl hlb hic hrd3
            go_wp2
            go_returns
            rw [HRR.out]
            exact ⟨none, 0, rfl, fun h => by simp [txs] at h, X1.out.then HX.out⟩
        · obtain rfl : i = m := by omega
          have HRR := hid (HOK.out (fun j hj => HJ.out j hj (by rw [← HM.out]; exact hj)))
          rw [List.take_of_length_le (by rw [HM.out]; exact Nat.le_refl _)] at hrd3
          have HR3 := hid hrd3
          clear hrd3 hlt
          go_wp2
          go_returns
          rw [HRR.out]
          exact ⟨_, c3, by simp only [List.length_map, HM.out]; rfl, HR3.out, X1.out.then HX.out⟩
  · rw [Dct.txt_bad h0]
    generalize Dct.chk b = r at *
    have h1 : ((r : Int) != 0) = true := by rw [bne_iff_ne]; omega
    have h2 : ((r : Int) == 0) = false := by rw [beq_eq_false_iff_ne]; omega
    have hrI : (r : Int) ≤ 4 := by omega
    clear hn hm hr hq hc hnl hml hcc h0
    go_enter Tryz.func86, Tryz.ntmps86
    go_wp2_with fail
    refine Calls.mono C.out ?_
    rintro e w1 ⟨rfl, hx⟩
    have X1 := hid hx
    clear hx
    go_wp2
    go_returns
    exact ⟨none, 0, rfl, fun h => by simp [txs] at h, X1.out⟩
end Go.Proofs.YtdmmodeplfmpnaaGreat
end
section
namespace Hy.Dct
open Go
@[irreducible] def of (l : List T) : List T × List Nat × Nat := if mny l = true then ([], [], 2) else (bk l, cds l, 0)
theorem of_many {l : List T} (h : mny l = true) : of l = ([], [], 2) := by unfold of; rw [if_pos h]
theorem of_ok {l : List T} (h : mny l = false) : of l = (bk l, cds l, 0) := by unfold of; rw [if_neg (by simp [h])]
theorem bk_nil : bk [] = [] := List.eq_nil_of_length_eq_zero (by have := bk_len []; simpa using this)
end Hy.Dct
namespace Go.Proofs.YtdmmodeplfmpnaaGreat
open Go.RowKit Hy Go.Maps
theorem txs_enc (l : List (List UInt8)) : l.map encStr = txs l := rfl
theorem dSort_own (l : List (List UInt8)) (n g c base : Nat) (w : World) (hn : l.length = n) (ho : w.ownsRow base 9 1 (.slice (some ⟨g, 0, none⟩) n c) n (txs l)) (hnl : n ≤ 64) (hb : base ≤ w.heap.size) :
    Calls Tryz.prog 84 #[.slice (some ⟨g, 0, none⟩) n c] w fun e w' => e = .returned (.tuple #[]) ∧ w'.ownsRow base 9 1 (.slice (some ⟨g, 0, none⟩) n c) n (txs (Dct.srt l)) ∧ Below base w w' := by
  rcases ho.2 with ⟨h, _⟩ | ⟨g', cap, cur, hv, hbg, hg, h1, h2, h3, h4⟩
  · cases h
  · injection hv with ha _ hcap
    injection ha with ha
    injection ha with ha
    subst ha hcap
    have hH := holds_of_block (ss := l) hg (by rw [hn, ← Nat.mul_one n]; exact h4)
    have hC := Tryz.slices_Sort_string g 0 c l w hH (Blk.lt (cs := cur) hg) (by omega)
    rw [hn] at hC
    refine Calls.mono hC ?_
    rintro e w' ⟨rfl, q, os, rfl⟩
    have hsl := Dct.srt_len l
    refine ⟨rfl, ?_, (Below.refl base w).grown (grownBy_sorted _) hb (fun k hk => by injection hk with hk; omega)⟩
    have := ownsRow_sorted (base := base) (g := g) (cap := c) (n := q) (os := os) (ss := l) (ts := Dct.srt l) hsl hbg hg (by omega) h2 h3
    rw [hn] at this
    exact this
theorem dCompact_own (l : List (List UInt8)) (n g c base : Nat) (w : World) (hn : l.length = n) (ho : w.ownsRow base 9 1 (.slice (some ⟨g, 0, none⟩) n c) n (txs l)) (hnl : n ≤ 64) (hb : base ≤ w.heap.size) :
    Calls Tryz.prog 85 #[.slice (some ⟨g, 0, none⟩) n c] w fun e w' => e = .returned (.slice (some ⟨g, 0, none⟩) (Lib.compact l).length c) ∧ Rd w' (some ⟨g, 0, none⟩) (txs (Lib.compact l)) ∧ Below base w w' := by
  rcases ho.2 with ⟨h, _⟩ | ⟨g', cap, cur, hv, hbg, hg, h1, h2, h3, h4⟩
  · cases h
  · injection hv with ha _ hcap
    injection ha with ha
    injection ha with ha
    subst ha hcap
    have hH := holds_of_block (ss := l) hg (by rw [hn, ← Nat.mul_one n]; exact h4)
    have hC := Tryz.slices_Compact_string g 0 c l w hH (by omega) (by omega)
    rw [hn] at hC
    refine Calls.mono hC ?_
    rintro e w' ⟨rfl, q, rfl⟩
    have hcl := Lib.compact_length_le l
    have hgb := grownBy_sorted (w := w) (g := g) (n := q) (os := #[]) (Lib.compact l ++ List.replicate (n - (Lib.compact l).length) []).toArray
    have := ownsRow_sorted (base := base) (g := g) (cap := c) (n := q) (os := #[]) (ss := l) (ts := Lib.compact l ++ List.replicate (n - (Lib.compact l).length) []) (by simp; omega) hbg hg (by omega) h2 h3
    rw [Go.Sort.grow_empty] at this hgb
    refine ⟨rfl, ?_, (Below.refl base w).grown hgb hb (fun k hk => by injection hk with hk; omega)⟩
    obtain ⟨A', c', e', hrd, _⟩ := Rd.owned this
    injection e' with e1 _ _
    subst e1
    rw [txs_enc, txs_app] at hrd
    exact hrd.pre
theorem zeroI (w : World) : (zeroValue 3).run Tryz.prog w = .ok (.int .i64 0) w := by kernel_rfl
theorem owns_map_keep {w w' : World} {k e : TypeId} {b n : Nat} {D : DataW Unit} (h : w.ownsMap Tryz.prog k (plainElem Tryz.prog e) b n D) (hx : Ext w w') : w'.ownsMap Tryz.prog k (plainElem Tryz.prog e) b n D := by
  obtain ⟨es, cl, hb, F, h1, h2⟩ := h
  refine ⟨es, cl, ?_, F, h1, h2⟩
  have hlt : b < w.heap.size := by
    rcases Nat.lt_or_ge b w.heap.size with hlt | hge
    · exact hlt
    · rw [Array.getElem?_eq_none hge] at hb; cases hb
  rw [hx.block b hlt]; exact hb
def Knows (b : List (List UInt8)) (k : Nat) (D : DataW Unit) : Prop := IsMap D ∧ ∀ (j : Nat) (hj : j < b.length), j < k → ∀ z, D.atKey (.string b[j]) z = .lit (.int .i64 (j : Nat))
theorem knows_zero (b : List (List UInt8)) : Knows b 0 (.map []) := ⟨isMap_empty, fun _ _ h => absurd h (Nat.not_lt_zero _)⟩
theorem knows_put (b : List (List UInt8)) (hb : b.Pairwise (· < ·)) (k : Nat) (hk : k < b.length) (D : DataW Unit) (h : Knows b k D) : Knows b (k + 1) (D.put (.string b[k]) (.lit (.int .i64 (k : Nat)))) := by
  refine ⟨h.1.put _ _, fun j hj hjk z => ?_⟩
  rcases Nat.lt_or_ge j k with h1 | h1
  · rw [atKey_put_other]
    · exact h.2 j hj h1 z
    · intro e
      injection e with e
      have := List.pairwise_iff_getElem.1 hb j k hj hk h1
      rw [e] at this
      exact Dct.lt_irr _ this
  · have : j = k := by omega
    subst this
    exact atKey_put_same h.1 (by simp [WideAt.IsKeyLit]) _ _
set_option maxRecDepth 100000 in
set_option maxHeartbeats 3200000 in
theorem dOf_any (l : List (List UInt8)) (A : Option Addr) (n cap : Nat) (w : World) (hn : l.length = n) (hr : Rd w A (txs l)) (hA : A = none → n = 0) (hnl : n ≤ 140737488355328) :
    Calls Tryz.prog 32 #[.slice A n cap] w fun e w' => ∃ B cb C cc, e = .returned (.tuple #[.slice B (Dct.of l).1.length cb, .slice C (Dct.of l).2.1.length cc, .int .i64 ((Dct.of l).2.2 : Nat)]) ∧ Rd w' B (txs (Dct.of l).1) ∧ Rd w' C (u64s (Dct.of l).2.1) ∧ Ext w w' := by
  have CM := hid (dMany_any l A n cap w hn hr hnl)
  have hmm := @run_makeMap Tryz.prog
  have hnI : (n : Int) ≤ 140737488355328 := by omega
  by_cases hm : Dct.mny l = true
  · rw [Dct.of_many hm]
    rw [hm] at CM
    clear hn hr hA hnl hm
    go_enter Tryz.func32, Tryz.ntmps32
    go_wp2_with fail
    refine Calls.mono CM.out ?_
    rintro e _ ⟨rfl, rfl⟩
    go_wp2
    go_returns
    exact ⟨none, 0, none, 0, rfl, fun h => by simp [txs] at h, fun h => by simp [u64s] at h, ext_refl _⟩
  · rw [Bool.not_eq_true] at hm
    rw [hm] at CM
    rw [Dct.of_ok hm]
    obtain ⟨h64, h16⟩ := Dct.mny_false hm
    rcases Nat.eq_zero_or_pos n with h0 | h0
    · subst h0
      obtain rfl := List.eq_nil_of_length_eq_zero hn
      rw [Dct.bk_nil]
      have hcd : Dct.cds [] = [] := rfl
      rw [hcd]
      clear hr hnl hm h64 h16
      cases A with
      | none =>
        go_enter Tryz.func32, Tryz.ntmps32
        go_wp2_with fail
        refine Calls.mono CM.out ?_
        rintro e _ ⟨rfl, rfl⟩
        go_wp2_with fail
        refine Calls.mono (Tryz.slices_Clone_string_nil 0 cap _) ?_
        rintro e _ ⟨rfl, rfl⟩
        go_wp2_with fail
        refine Calls.mono (Tryz.slices_Sort_string_none none 0 _) ?_
        rintro e _ ⟨rfl, rfl⟩
        go_wp2_with fail
        refine Calls.mono (Tryz.slices_Compact_string_empty none 0 _) ?_
        rintro e _ ⟨rfl, rfl⟩
        go_wp2
        refine wp_loop_rounds 1 ?_
        rw [rounds_succ]
        go_wp2
        refine wp_loop_rounds 1 ?_
        rw [rounds_succ]
        go_wp2
        go_returns
        exact ⟨none, 0, none, 0, rfl, fun h => by simp [txs] at h, fun h => by simp [u64s] at h, (ext_refl _).new _⟩
      | some a =>
        go_enter Tryz.func32, Tryz.ntmps32
        go_wp2_with fail
        refine Calls.mono CM.out ?_
        rintro e _ ⟨rfl, rfl⟩
        go_wp2_with fail
        refine Calls.mono (Tryz.slices_Clone_string_zero a cap _) ?_
        rintro e w1 ⟨v, rfl, hown, _, hx⟩
        obtain ⟨A1, c1, rfl, _⟩ := Rd.owned hown
        have X1 := hid hx
        clear hown hx
        go_wp2_with fail
        refine Calls.mono (Tryz.slices_Sort_string_none A1 c1 _) ?_
        rintro e _ ⟨rfl, rfl⟩
        go_wp2_with fail
        refine Calls.mono (Tryz.slices_Compact_string_empty A1 c1 _) ?_
        rintro e _ ⟨rfl, rfl⟩
        go_wp2
        refine wp_loop_rounds 1 ?_
        rw [rounds_succ]
        go_wp2
        refine wp_loop_rounds 1 ?_
        rw [rounds_succ]
        go_wp2
        go_returns
        exact ⟨A1, c1, none, 0, rfl, fun h => by simp [txs] at h, fun h => by simp [u64s] at h, Ext.new X1.out _⟩
    · obtain ⟨b0, o0, e0, l0, c0⟩ := hr.texts 0 (by omega)
      subst e0
      have HCL := hid (Tryz.slices_Clone_string b0 o0 n cap (l.map fun b => (⟨b.toArray⟩ : ByteArray)) w (by rw [List.length_map, hn]; exact Nat.le_refl _) (by omega) (fun j hj => by
        rw [List.length_map] at hj
        rw [c0 j hj, List.getD_eq_getElem?_getD, List.getElem?_map, List.getElem?_eq_getElem hj]; rfl))
      rw [show ((l.map fun b => (⟨b.toArray⟩ : ByteArray)).take n).map Value.string = txs l by
        rw [List.take_of_length_le (by rw [List.length_map, hn]; exact Nat.le_refl _), List.map_map]; rfl] at HCL
      have HSL := hid (Dct.srt_len l)
      have HBK := hid (Dct.bk_eq l)
      have HSP := hid (Dct.bk_spec l)
      have hbl := Dct.bk_len l
      have HCD := hid (show Dct.cds l = l.map (Dct.plc (Dct.bk l)) from rfl)
      obtain ⟨b, hb⟩ : ∃ b, b = Dct.bk l := ⟨_, rfl⟩
      obtain ⟨S, hS⟩ : ∃ S, S = Dct.srt l := ⟨_, rfl⟩
      rw [← hb] at HSP hbl HCD HBK ⊢
      rw [← hS] at HBK HSL
      have HSS := hid hS
      have HB16 := hid (show ∀ s ∈ b, s.length ≤ 16 from fun s hs => h16 s ((HSP.out.2 s).1 hs))
      obtain ⟨m, hmm2⟩ : ∃ m, m = b.length := ⟨_, rfl⟩
      have HM := hid hmm2
      have hmI : (m : Int) ≤ 64 := by omega
      have hn64 : (n : Int) ≤ 64 := by omega
      have HN := hid hn
      have HR := hid hr
      have HN64 := hid (show n ≤ 64 by omega)
      have H16 := hid h16
      have HN0 := hid h0
      have HCDL := hid (Dct.cds_len l)
      rw [hn] at HCDL
      generalize Dct.cds l = cd at *
      clear hn hr hA hnl hm h64 h16 h0 l0 c0 hb hS hbl hnI hmm2
      go_enter Tryz.func32, Tryz.ntmps32
      go_wp2_with fail
      refine Calls.mono CM.out ?_
      rintro e _ ⟨rfl, rfl⟩
      go_wp2_with fail
      refine Calls.mono HCL.out ?_
      rintro e w1 ⟨v, rfl, hown, _, hx⟩
      obtain ⟨g, c, rfl, hbg, _⟩ := own_base hown HN0.out
      have HO1 := hid hown
      have X1 := hid hx
      clear hown hx
      go_wp2_with fail
      refine Calls.mono (dSort_own l n g c _ _ HN.out HO1.out HN64.out X1.out.size) ?_
      rintro e w2 ⟨rfl, hown, hx⟩
      rw [← HSS.out] at hown
      have HO2 := hid hown
      have X2 := hid (X1.out.trans hx)
      clear hown hx HO1 X1
      go_wp2_with fail
      refine Calls.mono (dCompact_own S n g c _ _ (by rw [HSL.out, HN.out]) HO2.out HN64.out X2.out.size) ?_
      rw [HBK.out]
      rintro e w3 ⟨rfl, hrd, hx⟩
      have HRB := hid hrd
      have X3 := hid (X2.out.trans hx)
      clear hrd hx HO2 X2
      rw [← HM.out]
      go_wp2
      go_loopw [23] (fun ix wr => ∃ (k : Nat) (D : DataW Unit), k ≤ m ∧ ix = .int .i64 k ∧ Hid (wr.ownsMap Tryz.prog 9 (plainElem Tryz.prog 3) w3.heap.size k D) ∧ Hid (Knows b k D) ∧ Hid (Ext w3 wr)) (fun ix _ => m - (intOf ix).toNat)
      case atStart => exact ⟨0, .map [], Nat.zero_le _, rfl, hid (World.ownsMap_made _ _ _ _), hid (knows_zero b), hid ((ext_refl _).new _)⟩
      case round =>
        obtain ⟨k, D, hk, rfl, HO, HK, HX⟩ := hrel
        by_cases hlt : k < m
        · have hltI : (k : Int) < (m : Int) := by omega
          have hkb : k < b.length := by rw [← HM.out]; exact hlt
          obtain ⟨b1, o1, e1, l1, c1⟩ := (HRB.out.keep HX.out).texts k hkb
          cases e1
          have d0 := c1 k hkb
          rw [Nat.zero_add] at d0
          have hkey : keyOf Tryz.prog 9 (.string ⟨b[k].toArray⟩) = some (.string b[k]) := by
            have := Go.WideMaps.keyOf_string_mk (P := Tryz.prog) Tryz.underlying9 (s := ⟨b[k].toArray⟩) (by rw [str_size]; have := HB16.out _ (List.getElem_mem hkb); unfold maxLen; omega)
            exact this
          have HKN := hid (knows_put b HSP.out.1 k hkb D HK.out)
          obtain ⟨s, hs⟩ : ∃ s : ByteArray, s = ⟨b[k].toArray⟩ := ⟨_, rfl⟩
          rw [← hs] at d0 hkey
          have HKM := hid (show k < maxLen by have := HN64.out; unfold maxLen; omega)
          generalize b[k] = kt at *
          clear c1 hs hkb
          go_wp2_with (at_mapUpdate; refine wpList_mapUpdate_own _ rfl _ _ _ 81 rfl 9 3 (string_keyed Tryz.underlying9) Tryz.underlying81 _ w3.heap.size k _ rfl HO.out HKM.out _ _ _ rfl rfl hkey _ [] (plainElem_int Tryz.underlying3 (WalkArith.wf_i64 (by omega))) ?_; intro w5 hown5 hgrow5; have HO5 := hid hown5; have HX5 := hid (HX.out.grown hgrow5 HX.out.size (fun j hj => by cases hj; exact Nat.le_refl _)); clear hown5 hgrow5)
          go_roundw
          case rel => exact ⟨k + 1, _, by omega, by go_num, HO5, HKN, HX5⟩
          case measure => simp [intOf] <;> omega
        · obtain rfl : k = m := by omega
          clear hlt
          have HOM := HO
          have HXM := HX
          clear HO HX
          go_wp2
          go_loopw [9, 34] (fun v ix ws => ∃ i : Nat, i ≤ n ∧ ix = .int .i64 i ∧ Hid (ws.ownsRow wr.heap.size 39 1 v i (u64s ((l.take i).map (Dct.plc b)))) ∧ Hid (Ext wr ws)) (fun _ ix _ => n - (intOf ix).toNat)
          case atStart => exact ⟨0, Nat.zero_le _, rfl, hid (World.ownsRow_nil _ _ _ _), hid (ext_refl _)⟩
          case round =>
            obtain ⟨i, hi, rfl, HO, HX⟩ := hrel
            obtain ⟨A3, c3, rfl, hrd3, _⟩ := Rd.owned HO.out
            have XA := hid (Ext.then (X3.out.trans (HXM.out.mono X3.out.size)) HX.out)
            by_cases hlt : i < n
            · have hltI : (i : Int) < (n : Int) := by omega
              have hil : i < l.length := by rw [HN.out]; exact hlt
              obtain ⟨b1, o1, e1, l1, c1⟩ := (HR.out.keep XA.out).texts i hil
              cases e1
              have d0 := c1 i hil
              have hkey : keyOf Tryz.prog 9 (.string ⟨l[i].toArray⟩) = some (.string l[i]) := by
                have := Go.WideMaps.keyOf_string_mk (P := Tryz.prog) Tryz.underlying9 (s := ⟨l[i].toArray⟩) (by rw [str_size]; have := H16.out _ (List.getElem_mem hil); unfold maxLen; omega)
                exact this
              have hmem := (HSP.out.2 l[i]).2 (List.getElem_mem hil)
              have hpl := Dct.plc_lt HSP.out.1 hmem
              have hat : ∀ z, D.atKey (.string l[i]) z = .lit (.int .i64 (Dct.plc b l[i] : Nat)) := fun z => by
                have h1 := HK.out.2 _ hpl (by rw [HM.out]; exact hpl) z
                have h2 := Dct.plc_mem HSP.out.1 hmem
                rw [List.getElem?_eq_getElem hpl] at h2
                injection h2 with h2
                rw [h2] at h1; exact h1
              have HS := hid (show (l.take (i + 1)).map (Dct.plc b) = (l.take i).map (Dct.plc b) ++ [Dct.plc b l[i]] by rw [List.take_succ_eq_append_getElem hil, List.map_append]; rfl)
              obtain ⟨s, hs⟩ : ∃ s : ByteArray, s = ⟨l[i].toArray⟩ := ⟨_, rfl⟩
              rw [← hs] at d0 hkey
              have hpI : (Dct.plc b l[i] : Int) ≤ 64 := by rw [HM.out] at hmI; omega
              generalize Dct.plc b l[i] = p at *
              generalize l[i] = kt at *
              have HAT := hid (hat (.lit (.int .i64 0)))
              have HI := hid (show i ≤ 64 by have := HN64.out; omega)
              have hwp : IntKind.u64.wrap (p : Int) = (p : Int) := by rw [IntKind.wrap_u64]; omega
              have HOK := hid (owns_map_keep HOM.out HX.out)
              generalize (l.take i).map (Dct.plc b) = L at *
              clear c1 hs hil hmem hpl hat hrd3
              go_wp2_with (first
                | (at_lookup; refine wpList_lookup_own_int _ rfl _ _ 81 rfl 9 3 .i64 (string_keyed Tryz.underlying9) Tryz.underlying81 Tryz.underlying3 (zeroI _) w3.heap.size k _ rfl HOK.out _ _ rfl hkey ?_; intro cz hatz hwc; rw [HAT.out] at hatz; obtain rfl : (p : Int) = cz := (by simpa using hatz); clear hatz hwc)
                | (at_builtin; go_loud (refine wpList_app rfl (.tmp 38) (.tmp 43) rowU64 rfl _ i _ rfl (own_ext HO.out ((ext_refl _).new _)) _ 1 (u64s [p]) rfl (Src.rd Tryz.underlying22 _ 1 1 _ rfl (rd_lit rfl rfl) (u64s_one _) (fun h => by cases h)) (by have := HI.out; unfold maxLen; omega) (by have := HI.out; omega) (by have := HX.out.size; simp; omega) ?_; intro v' w5 hown5 hgrow hat hbel; have HO5 := hid hown5; have HX5 := hid (Below.trans (Ext.new HX.out _) hbel); obtain ⟨A5, c5, rfl, _⟩ := Rd.owned HO5.out; clear hown5 hgrow hat hbel)))
              go_roundw
              case rel => exact ⟨i + 1, by omega, by go_num, hid (by rw [HS.out, u64s_app]; exact HO5.out), HX5⟩
              case measure => simp [intOf] <;> omega
            · obtain rfl : i = n := by omega
              rw [List.take_of_length_le (by rw [HN.out]; exact Nat.le_refl _), ← HCD.out] at hrd3
              have HRC := hid hrd3
              have HRB2 := hid ((HRB.out.keep HXM.out).keep HX.out)
              clear hrd3 hlt
              go_wp2
              go_returns
              exact ⟨_, c, _, c3, by rw [← HM.out, HCDL.out]; rfl, HRB2.out, HRC.out, XA.out⟩
end Go.Proofs.YtdmmodeplfmpnaaGreat
end
