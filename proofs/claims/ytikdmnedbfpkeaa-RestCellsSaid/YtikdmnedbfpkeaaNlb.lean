/- ThereOf; what is wrong with marks and cells that are to be joined: walks. -/
import Derived.Test.YtikdmnedbfpkeaaNla
import Derived.Test.YtikdmnedbfpkeaaStn
namespace Hy.Cel
def anyNull (l : List Cel) : Bool := l.any fun c => decide (c.1 = 0)
def jchk (kind : Int) (m : List Bool) (l : List Cel) : Nat := if cchk kind l ≠ 0 then cchk kind l else if anyNull l = true then 7 else if 64 < m.length then 2 else if m.count true ≠ l.length then 1 else 0
end Hy.Cel
namespace Go.Proofs.Ytikdmnedbfpkeaa
open Go.RowKit Hy
set_option maxHeartbeats 1600000 in
theorem thereOf_any (l : List Cel) (A : Option Addr) (n cap : Nat) (w : World) (hn : l.length = n) (hr : Rd w A (cls l)) (hnl : n ≤ 1000000000000) :
    Calls Try.prog 26 #[.slice A n cap] w fun e w' => ∃ B c, e = .returned (.slice B n c) ∧ Rd w' B (bls (thereL l)) ∧ Ext w w' := by
  have HN := hid hn
  have HA := hid hr
  have HL := hid hnl
  have hnI : (n : Int) ≤ 1000000000000 := by omega
  clear hn hr hnl
  go_enter Try.func26, Try.ntmps26
  go_wp2
  go_loopw [3, 4] (fun x c wr => ∃ k : Nat, k ≤ n ∧ c = .int .i64 k ∧ wr.ownsRow w.heap.size 4 1 x k (bls (thereL (l.take k))) ∧ Ext w wr) (fun _ c _ => n - (intOf c).toNat)
  case atStart => exact ⟨0, Nat.zero_le _, rfl, World.ownsRow_nil _ _ _ _, ext_refl _⟩
  case round =>
    obtain ⟨k, hk, rfl, hown, X⟩ := hrel
    by_cases hlt : k < n
    · have hka : k < l.length := by rw [HN.out]; exact hlt
      obtain ⟨b1, o1, e1, l1, c1⟩ := HA.out.cels k hka
      subst e1
      have d0 := (X.cell (p := ⟨b1, o1 + k * 3, none⟩) l1).trans (c1 k hka).1
      have HE := hid (thereL_take l k hka)
      have HO := hid hown
      generalize l[k] = c at *
      generalize thereL (l.take k) = D at *
      obtain ⟨kk, nn, ss⟩ := c
      simp only at d0 HE
      obtain ⟨q, hq⟩ : ∃ q, q = decide (kk ≠ 0) := ⟨_, rfl⟩
      have e2 : (kk != 0) = q := by rw [hq]; simp [bne, BEq.beq]
      rw [← hq] at HE
      clear c1 hka hown hq
      go_wp2_with (at_builtin; go_loud (refine wpList_app rfl (.tmp 11) (.tmp 18) rowBl rfl _ k (bls D) rfl (own_ext HO.out (Ext.new (ext_refl _) _)) _ 1 (bls [q]) rfl (Src.rd Try.underlying42 _ 1 1 _ rfl (rd_lit rfl rfl) (bls_one _) (fun h => by cases h)) (by have := HL.out; simp only [maxLen]; omega) (by have := HL.out; omega) (by have := X.size; simp; omega) ?_; intro v' w5 hown5 hgrow hat hbel))
      go_roundw
      case rel => exact ⟨k + 1, by omega, by go_num, by rw [HE.out, bls_app]; exact hown5, (Ext.new X _).trans hbel⟩
      case measure => simp [intOf]; omega
    · obtain rfl : k = n := by omega
      obtain ⟨B, c, rfl, hrd, hB, hc, hcm⟩ := Rd.owned hown
      have HRD := hid hrd
      clear hown hrd hB hc hcm
      go_wp2
      go_returns
      have e : l.take k = l := List.take_of_length_le (by rw [HN.out]; exact Nat.le_refl _)
      rw [e] at HRD
      exact ⟨B, c, rfl, HRD.out, X⟩
theorem notThere_any (c : Cel) (w : World) : Calls Try.prog 53 #[celV c] w fun e w' => e = .returned (.bool (decide (c.1 = 0))) ∧ Ext w w' := by
  have HT := hid (there_any c)
  obtain ⟨k, n, s⟩ := c
  go_enter Try.func53, Try.ntmps53
  go_wp2_with fail
  refine Calls.mono (HT.out _) ?_
  rintro e w1 ⟨rfl, hx⟩
  have HX := hid (Ext.then ((ext_refl w).new _) hx)
  clear hx
  go_wp2
  go_returns
  refine ⟨?_, HX.out⟩
  by_cases h : k = 0 <;> simp [h]
set_option maxHeartbeats 400000 in
theorem indexNull_any (l : List Cel) (A : Option Addr) (n cap : Nat) (w : World) (hn : l.length = n) (hr : Rd w A (cls l)) (hnl : n ≤ 140737488355328) :
    Calls Try.prog 58 #[.slice A n cap, .func (.func 53) #[] #[]] w fun e w' => (∃ r : Int, e = .returned (.int .i64 r) ∧ decide (0 ≤ r) = Cel.anyNull l) ∧ Ext w w' := by
  have HN := hid hn
  have HA := hid hr
  clear hr hn
  go_enter Try.func58, Try.ntmps58
  go_wp2
  go_loopw [5, 8] (fun _ c wr => ∃ k : Nat, k ≤ n ∧ c = .int .i64 k ∧ Hid (∀ i (h : i < l.length), i < k → l[i].1 ≠ 0) ∧ Ext w wr) (fun _ c _ => n - (intOf c).toNat)
  case atStart => exact ⟨0, Nat.zero_le _, rfl, hid fun i h h2 => absurd h2 (Nat.not_lt_zero _), ext_refl _⟩
  case round =>
    obtain ⟨k, hk, rfl, HT, X⟩ := hrel
    by_cases hlt : k < n
    · have hka : k < l.length := by rw [HN.out]; exact hlt
      obtain ⟨b1, o1, e1, l1, c1⟩ := HA.out.cels k hka
      subst e1
      have d0 := (X.cell (p := ⟨b1, o1 + k * 3, none⟩) l1).trans (c1 k hka).1
      have d1 := (X.cell (p := ⟨b1, o1 + k * 3 + 1, none⟩) l1).trans (c1 k hka).2.1
      have d2 := (X.cell (p := ⟨b1, o1 + k * 3 + 2, none⟩) l1).trans (c1 k hka).2.2
      have HC := hid (notThere_any l[k])
      have HX := hid X
      by_cases h0 : l[k].1 = 0
      · have hf : Cel.anyNull l = true := by
          unfold Cel.anyNull
          rw [List.any_eq_true]
          exact ⟨l[k], List.getElem_mem hka, by simp [h0]⟩
        have HF := hid hf
        rw [decide_eq_true h0] at HC
        generalize l[k] = c at *
        obtain ⟨kk, nn, ss⟩ := c
        clear c1 hka h0 hf X
        go_wp2_with fail
        refine Calls.mono (HC.out _) ?_
        rintro e w1 ⟨rfl, hx⟩
        replace HX := hid (HX.out.then hx)
        clear hx
        go_wp2
        go_returns
        exact ⟨⟨_, rfl, by rw [HF.out]; simp⟩, HX.out⟩
      · have HT2 : Hid (∀ i (h : i < l.length), i < k + 1 → l[i].1 ≠ 0) := hid fun i h h2 => by
          rcases Nat.lt_or_ge i k with h3 | h3
          · exact HT.out i h h3
          · have : i = k := by omega
            subst this
            exact h0
        rw [decide_eq_false h0] at HC
        generalize l[k] = c at *
        obtain ⟨kk, nn, ss⟩ := c
        clear c1 hka h0 X
        go_wp2_with fail
        refine Calls.mono (HC.out _) ?_
        rintro e w1 ⟨rfl, hx⟩
        replace HX := hid (HX.out.then hx)
        clear hx
        go_wp2
        go_roundw
        case rel => exact ⟨k + 1, by omega, by go_num, HT2, HX.out⟩
        case measure => simp [intOf]; omega
    · obtain rfl : k = n := by omega
      have hf : Cel.anyNull l = false := by
        unfold Cel.anyNull
        rw [List.any_eq_false]
        intro c hc
        obtain ⟨i, hi, rfl⟩ := List.getElem_of_mem hc
        simpa using HT.out i hi (by rw [← HN.out]; exact hi)
      have HFF := hid hf
      clear hf
      go_wp2
      go_returns
      exact ⟨⟨_, rfl, by rw [HFF.out]; rfl⟩, X⟩
theorem containsNull_any (l : List Cel) (A : Option Addr) (n cap : Nat) (w : World) (hn : l.length = n) (hr : Rd w A (cls l)) (hnl : n ≤ 140737488355328) :
    Calls Try.prog 52 #[.slice A n cap, .func (.func 53) #[] #[]] w fun e w' => e = .returned (.bool (Cel.anyNull l)) ∧ Ext w w' := by
  have C := hid (indexNull_any l A n cap w hn hr hnl)
  clear hn hr
  go_enter Try.func52, Try.ntmps52
  go_wp2_with fail
  refine Calls.mono C.out ?_
  rintro e w2 ⟨⟨r, rfl, hr⟩, hx⟩
  have HR := hid hr
  have HX := hid hx
  clear hr hx
  go_wp2
  go_returns
  exact ⟨by rw [← HR.out]; rfl, HX.out⟩
set_option maxHeartbeats 800000 in
theorem jcheck_any (kind : Int) (m : List Bool) (l : List Cel) (A B : Option Addr) (n k ca cb : Nat) (w : World) (hm : m.length = k) (hrm : Rd w A (bls m)) (hn : l.length = n) (hr : Rd w B (cls l)) (hkl : k ≤ 140737488355328) (hnl : n ≤ 140737488355328) :
    Calls Try.prog 43 #[.int .i64 kind, .slice A k ca, .slice B n cb] w fun e w' => e = .returned (.int .i64 (Cel.jchk kind m l : Nat)) ∧ Ext w w' := by
  have HC := hid (check_any kind l B n cb w hn hr hnl)
  have HNU := hid (fun w' (hx : Ext w w') => containsNull_any l B n cb w' hn (hr.keep hx) hnl)
  have hkI : (k : Int) ≤ 140737488355328 := by omega
  by_cases h1 : Cel.cchk kind l = 0
  · have hj : Cel.jchk kind m l = if Cel.anyNull l = true then 7 else if 64 < k then 2 else if m.count true ≠ n then 1 else 0 := by
      unfold Cel.jchk; rw [if_neg (by rw [h1]; simp), hm, hn]
    rw [h1] at HC
    have HJ := hid hj
    have hn64 : n ≤ 64 := by rw [← hn]; exact (Cel.cchk_iff.1 h1).2.1
    clear h1 hj
    obtain ⟨q, hq⟩ : ∃ q, q = Cel.anyNull l := ⟨_, rfl⟩
    rw [← hq] at HJ HNU
    clear hq
    cases q with
    | true =>
      clear hm hrm hn hr
      go_enter Try.func43, Try.ntmps43
      go_wp2_with fail
      refine Calls.mono HC.out ?_
      rintro e w1 ⟨rfl, hx⟩
      have HX := hid hx
      clear hx
      go_wp2_with fail
      refine Calls.mono (HNU.out _ HX.out) ?_
      rintro e w2 ⟨rfl, hx⟩
      replace HX := hid (HX.out.then hx)
      clear hx
      go_wp2
      go_returns
      exact ⟨by rw [HJ.out]; rfl, HX.out⟩
    | false =>
      by_cases h64 : k ≤ 64
      · have HCO := hid (fun w' (hx : Ext w w') => count_any m A k ca w' hm (hrm.keep hx) (by omega))
        have hcl : m.count true ≤ k := by rw [← hm]; exact List.count_le_length
        obtain ⟨c, hc⟩ : ∃ c, c = m.count true := ⟨_, rfl⟩
        rw [← hc] at HJ HCO hcl
        have h64I : (k : Int) ≤ 64 := by omega
        have hcI : (c : Int) ≤ 64 := by omega
        have hJ2 := hid (HJ.out.trans (by rw [if_neg (by simp), if_neg (by omega)]))
        by_cases hcn : c = n
        · have e1 : ((c : Int) == (n : Int)) = true := by simp [hcn]
          have e2 : ((c : Int) != (n : Int)) = false := by simp [hcn]
          have HCN := hid hcn
          clear hm hrm hn hr HJ hc hcl hcn h64 hkl hnl hn64
          go_enter Try.func43, Try.ntmps43
          go_wp2_with fail
          refine Calls.mono HC.out ?_
          rintro e w1 ⟨rfl, hx⟩
          have HX := hid hx
          clear hx
          go_wp2_with fail
          refine Calls.mono (HNU.out _ HX.out) ?_
          rintro e w2 ⟨rfl, hx⟩
          replace HX := hid (HX.out.then hx)
          clear hx
          go_wp2_with fail
          refine Calls.mono (HCO.out _ HX.out) ?_
          rintro e w3 ⟨rfl, hx⟩
          replace HX := hid (HX.out.then hx)
          clear hx
          go_wp2
          go_returns
          exact ⟨by rw [hJ2.out, if_neg (by rw [HCN.out]; simp)]; rfl, HX.out⟩
        · have e1 : ((c : Int) == (n : Int)) = false := by rw [beq_eq_false_iff_ne]; omega
          have e2 : ((c : Int) != (n : Int)) = true := by rw [bne_iff_ne]; omega
          have HCN := hid hcn
          clear hm hrm hn hr HJ hc hcl hcn h64 hkl hnl hn64
          go_enter Try.func43, Try.ntmps43
          go_wp2_with fail
          refine Calls.mono HC.out ?_
          rintro e w1 ⟨rfl, hx⟩
          have HX := hid hx
          clear hx
          go_wp2_with fail
          refine Calls.mono (HNU.out _ HX.out) ?_
          rintro e w2 ⟨rfl, hx⟩
          replace HX := hid (HX.out.then hx)
          clear hx
          go_wp2_with fail
          refine Calls.mono (HCO.out _ HX.out) ?_
          rintro e w3 ⟨rfl, hx⟩
          replace HX := hid (HX.out.then hx)
          clear hx
          go_wp2
          go_returns
          exact ⟨by rw [hJ2.out, if_pos HCN.out]; rfl, HX.out⟩
      · have h64I : (64 : Int) < (k : Int) := by omega
        have hJ2 := hid (HJ.out.trans (by rw [if_neg (by simp), if_pos (by omega)]))
        clear hm hrm hn hr HJ h64 hkl hnl hn64
        go_enter Try.func43, Try.ntmps43
        go_wp2_with fail
        refine Calls.mono HC.out ?_
        rintro e w1 ⟨rfl, hx⟩
        have HX := hid hx
        clear hx
        go_wp2_with fail
        refine Calls.mono (HNU.out _ HX.out) ?_
        rintro e w2 ⟨rfl, hx⟩
        replace HX := hid (HX.out.then hx)
        clear hx
        go_wp2
        go_returns
        exact ⟨by rw [hJ2.out]; rfl, HX.out⟩
  · have HJ := hid (show Cel.jchk kind m l = Cel.cchk kind l from by unfold Cel.jchk; rw [if_pos h1])
    obtain ⟨c, hc⟩ : ∃ c, c = Cel.cchk kind l := ⟨_, rfl⟩
    have hne : ((c : Int) == 0) = false := by rw [beq_eq_false_iff_ne]; omega
    have hne2 : ((c : Int) != 0) = true := by rw [bne_iff_ne]; omega
    rw [← hc] at HC HJ
    clear hm hrm hn hr h1 hc
    go_enter Try.func43, Try.ntmps43
    go_wp2_with fail
    refine Calls.mono HC.out ?_
    rintro e w1 ⟨rfl, hx⟩
    have HX := hid hx
    clear hx
    go_wp2
    go_returns
    exact ⟨by rw [HJ.out]; rfl, HX.out⟩
end Go.Proofs.Ytikdmnedbfpkeaa
