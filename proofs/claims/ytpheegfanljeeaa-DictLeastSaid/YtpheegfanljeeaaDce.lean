/- Dict: the document's placeOf, BookCheck, Below, TextsOf: walks. -/
import Derived.Test.YtpheegfanljeeaaDcc
import Derived.Test.YtpheegfanljeeaaRow
import Derived.Test.YtpheegfanljeeaaGho
namespace Go.Proofs.Ytpheegfanljeeaa
open Go.RowKit Hy
theorem txLess_any (a b : List UInt8) (S U : ByteArray) (hS : S = ⟨a.toArray⟩) (hU : U = ⟨b.toArray⟩) (w : World) (ha : a.length ≤ 140737488355328) (hb : b.length ≤ 140737488355328) (q : Bool) (hq : decide (a < b) = q) :
    Calls Try.prog 63 #[.string S, .string U] w fun e w' => e = .returned (.bool q) ∧ Ext w w' := by
  subst hS hU hq
  have h := textLess_any ⟨a.toArray⟩ ⟨b.toArray⟩ w (by rw [str_size]; exact ha) (by rw [str_size]; exact hb)
  rw [Dct.tless_eq] at h
  exact h
set_option maxRecDepth 100000 in
set_option maxHeartbeats 1600000 in
theorem placeOf_any (l : List (List UInt8)) (A : Option Addr) (n cap : Nat) (t : List UInt8) (s : ByteArray) (hs : s = ⟨t.toArray⟩) (w : World) (hn : l.length = n) (hr : Rd w A (txs l)) (hnl : n ≤ 2000000) (hl : ∀ x ∈ l, x.length ≤ 140737488355328) (ht : t.length ≤ 140737488355328) :
    Calls Try.prog 61 #[.slice A n cap, .string s] w fun e w' => e = .returned (.int .i64 (Dct.plc (Dct.bk l) t : Nat)) ∧ Ext w w' := by
  have hnI : (n : Int) ≤ 2000000 := by omega
  have HN := hid hn
  have HR := hid hr
  have HL := hid hl
  have HALL := hid (Dct.cntB_all l t)
  have HLE := hid (Dct.cntB_le l t)
  have HST := hid (Dct.cntB_step l t)
  have HT := hid ht
  have HS := hid hs
  rw [hn] at HALL
  clear hn hr hl ht hnl hs
  go_enter Try.func61, Try.ntmps61
  go_wp2
  go_loopw [5, 6, 7, 8] (fun c ix _ _ wr => ∃ i : Nat, i ≤ n ∧ ix = .int .i64 i ∧ c = .int .i64 (Dct.cntB l t i : Nat) ∧ Hid (Ext w wr)) (fun _ ix _ _ _ => n - (intOf ix).toNat)
  case atStart => exact ⟨0, Nat.zero_le _, rfl, rfl, ext_refl _⟩
  case round =>
    obtain ⟨i, hi, rfl, rfl, HX⟩ := hrel
    have hci := HLE.out i
    by_cases hlt : i < n
    · have hltI : (i : Int) < (n : Int) := by omega
      have hil : i < l.length := by rw [HN.out]; exact hlt
      have HS1 := hid (HST.out i hil)
      obtain ⟨b1, o1, e1, l1, c1⟩ := HR.out.texts 0 (by omega)
      cases e1
      have C1 := hid c1
      have hL1 := hid l1
      have HIL := hid hil
      generalize Dct.cntB l t i = ci at *
      have hcI : (ci : Int) ≤ 2000000 := by omega
      clear c1 l1 hlt hci
      go_wp2
      go_loopw [7, 8] (fun f kx ws => ∃ k : Nat, k ≤ i ∧ kx = .int .i64 k ∧ f = .bool (decide (l[i]'HIL.out ∉ l.take k)) ∧ Hid (Ext w ws)) (fun _ kx _ => i - (intOf kx).toNat)
      case atStart => exact ⟨0, Nat.zero_le _, rfl, by simp, HX⟩
      case round =>
        obtain ⟨k, hk, rfl, rfl, HXX⟩ := hrel
        by_cases hki : k < i
        · have hkiI : (k : Int) < (i : Int) := by omega
          have hkl : k < l.length := by have := HIL.out; omega
          have d0 := (HXX.out.cell (p := ⟨b1, o1 + i, none⟩) hL1.out).trans (C1.out i HIL.out)
          have d1 := (HXX.out.cell (p := ⟨b1, o1 + k, none⟩) hL1.out).trans (C1.out k hkl)
          have hstep : (l[i]'HIL.out ∉ l.take (k + 1)) ↔ (l[i]'HIL.out ∉ l.take k ∧ l[k] ≠ l[i]'HIL.out) := by
            rw [List.take_succ_eq_append_getElem hkl, List.mem_append, List.mem_singleton]
            constructor
            · intro h; exact ⟨fun h2 => h (.inl h2), fun h2 => h (.inr h2.symm)⟩
            · rintro ⟨h1, h2⟩ (h | h)
              · exact h1 h
              · exact h2 h.symm
          have HSTP := hid hstep
          obtain ⟨S0, hS0⟩ : ∃ S : ByteArray, S = ⟨(l[i]'HIL.out).toArray⟩ := ⟨_, rfl⟩
          obtain ⟨S1, hS1⟩ : ∃ S : ByteArray, S = ⟨l[k].toArray⟩ := ⟨_, rfl⟩
          have e0 : S0.toList = l[i]'HIL.out := by rw [hS0, ByteArray.toList_mk]
          have e1 : S1.toList = l[k] := by rw [hS1, ByteArray.toList_mk]
          rw [← hS0] at d0
          rw [← hS1] at d1
          have HE0 := hid e0
          have HE1 := hid e1
          clear hstep hS0 hS1 e0 e1
          by_cases hf : l[i]'HIL.out ∉ l.take k
          · rw [decide_eq_true hf]
            by_cases he : S1.toList = S0.toList
            · have HD := hid (show decide (l[i]'HIL.out ∉ l.take (k + 1)) = false from decide_eq_false fun h => (HSTP.out.1 h).2 (by rw [← HE0.out, ← HE1.out]; exact he))
              have he2 : (S1.toList != S0.toList) = false := by rw [he]; simp
              have he3 : (S1.toList == S0.toList) = true := by rw [he]; simp
              clear hf hki HSTP HE1 hkl
              go_wp2_with fail
              go_quiet (fail)
              go_wp2
              go_roundw
              case rel => exact ⟨k + 1, by omega, by go_num, by rw [HD.out], hid (HXX.out.draws _)⟩
              case measure => simp [intOf] <;> omega
            · have HD := hid (show decide (l[i]'HIL.out ∉ l.take (k + 1)) = true from decide_eq_true (HSTP.out.2 ⟨hf, fun h => he (by rw [HE0.out, HE1.out]; exact h)⟩))
              have he2 : (S1.toList != S0.toList) = true := by rw [bne_iff_ne]; exact he
              have he3 : (S1.toList == S0.toList) = false := by rw [beq_eq_false_iff_ne]; exact he
              clear hf hki HSTP HE1 hkl
              go_wp2_with fail
              go_quiet (fail)
              go_wp2
              go_roundw
              case rel => exact ⟨k + 1, by omega, by go_num, by rw [HD.out], hid (HXX.out.draws _)⟩
              case measure => simp [intOf] <;> omega
          · rw [decide_eq_false hf]
            have HD := hid (show decide (l[i]'HIL.out ∉ l.take (k + 1)) = false from decide_eq_false fun h => hf (HSTP.out.1 h).1)
            clear hf hki HSTP HE1 hkl
            go_wp2_with fail
            go_quiet (fail)
            go_wp2
            go_roundw
            case rel => exact ⟨k + 1, by omega, by go_num, by rw [HD.out], hid (HXX.out.draws _)⟩
            case measure => simp [intOf] <;> omega
        · obtain rfl : k = i := by omega
          have d0 := (HXX.out.cell (p := ⟨b1, o1 + k, none⟩) hL1.out).trans (C1.out k HIL.out)
          by_cases hf : l[k]'HIL.out ∉ l.take k
          · rw [decide_eq_true hf]
            obtain ⟨S0, hS0⟩ : ∃ S : ByteArray, S = ⟨(l[k]'HIL.out).toArray⟩ := ⟨_, rfl⟩
            rw [← hS0] at d0
            have hlen := HL.out _ (List.getElem_mem HIL.out)
            by_cases hl2 : l[k]'HIL.out < t
            · have CT := hid (fun wx => txLess_any (l[k]'HIL.out) t S0 s hS0 HS.out wx hlen HT.out true (decide_eq_true hl2))
              have HD := hid (HS1.out.trans (if_pos ⟨hf, hl2⟩))
              clear hf hS0 hlen hl2 hki
              go_wp2_with fail
              refine Calls.mono (CT.out _) ?_
              rintro e w5 ⟨rfl, hx⟩
              have X5 := hid (HXX.out.then hx)
              clear hx
              go_wp2
              go_roundw
              case rel => exact ⟨k + 1, by omega, by go_num, by rw [HD.out]; go_num, X5⟩
              case measure => simp [intOf] <;> omega
            · have CT := hid (fun wx => txLess_any (l[k]'HIL.out) t S0 s hS0 HS.out wx hlen HT.out false (decide_eq_false hl2))
              have HD := hid (HS1.out.trans (if_neg (fun h => hl2 h.2)))
              clear hf hS0 hlen hl2 hki
              go_wp2_with fail
              refine Calls.mono (CT.out _) ?_
              rintro e w5 ⟨rfl, hx⟩
              have X5 := hid (HXX.out.then hx)
              clear hx
              go_wp2
              go_roundw
              case rel => exact ⟨k + 1, by omega, by go_num, by rw [HD.out], X5⟩
              case measure => simp [intOf] <;> omega
          · rw [decide_eq_false hf]
            have HD := hid (HS1.out.trans (if_neg (fun h => hf h.1)))
            clear hf hki
            go_wp2
            go_roundw
            case rel => exact ⟨k + 1, by omega, by go_num, by rw [HD.out], HXX⟩
            case measure => simp [intOf] <;> omega
    · obtain rfl : i = n := by omega
      clear hlt
      go_wp2
      go_returns
      exact ⟨by rw [← HALL.out]; rfl, HX.out⟩
set_option maxRecDepth 100000 in
set_option maxHeartbeats 800000 in
theorem bookCheck_any (b : List (List UInt8)) (A : Option Addr) (n cap : Nat) (w : World) (hn : b.length = n) (hr : Rd w A (txs b)) (hnl : n ≤ 140737488355328) (hl : ∀ x ∈ b, x.length ≤ 140737488355328) :
    Calls Try.prog 33 #[.slice A n cap] w fun e w' => e = .returned (.int .i64 (Dct.chk b : Nat)) ∧ Ext w w' := by
  have C := hid (manyTexts_any b A n cap w hn hr hnl)
  rw [← hn, ← Dct.mny_eq, hn] at C
  have hnI : (n : Int) ≤ 140737488355328 := by omega
  by_cases hm : Dct.mny b = true
  · rw [hm] at C
    rw [Dct.chk_many hm]
    clear hn hr hnl hm hl
    go_enter Try.func33, Try.ntmps33
    go_wp2_with fail
    refine Calls.mono C.out ?_
    rintro e _ ⟨rfl, rfl⟩
    go_wp2
    go_returns
    exact ⟨rfl, ext_refl _⟩
  · rw [Bool.not_eq_true] at hm
    rw [hm] at C
    have H1 := hid (Dct.chk_ok hm)
    have H2 := hid (Dct.chk_state hm)
    have HN := hid hn
    have HR := hid hr
    have HL := hid hl
    clear hn hr hnl hm hl
    generalize Dct.chk b = r at *
    go_enter Try.func33, Try.ntmps33
    go_wp2_with fail
    refine Calls.mono C.out ?_
    rintro e _ ⟨rfl, rfl⟩
    go_wp2
    go_loopw [3] (fun c wr => ∃ k : Nat, (k ≤ n ∨ k = 0) ∧ c = .int .i64 ((k : Int) + 1) ∧ Hid (Dct.asc (b.take (k + 1)) = true) ∧ Ext w wr) (fun c _ => n + 1 - (intOf c).toNat)
    case atStart => exact ⟨0, .inr rfl, rfl, hid (by cases b <;> rfl), ext_refl _⟩
    case round =>
      obtain ⟨k, hk, rfl, HA, X⟩ := hrel
      by_cases hlt : k + 1 < n
      · have hltI : (k : Int) + 1 < (n : Int) := by omega
        have hk1 : k + 1 < b.length := by rw [HN.out]; exact hlt
        obtain ⟨b1, o1, e1, l1, c1⟩ := (HR.out.keep X).texts 0 (by omega)
        subst e1
        have d0 := c1 k (by omega)
        have d1 := c1 (k + 1) hk1
        have HT := hid (Dct.asc_take b k hk1 HA.out)
        have HF := hid (Dct.asc_false_take b (k + 2))
        have hl0 := HL.out b[k] (List.getElem_mem _)
        have hl1 := HL.out b[k + 1] (List.getElem_mem _)
        obtain ⟨S0, hS0⟩ : ∃ S : ByteArray, S = ⟨b[k].toArray⟩ := ⟨_, rfl⟩
        obtain ⟨S1, hS1⟩ : ∃ S : ByteArray, S = ⟨b[k + 1].toArray⟩ := ⟨_, rfl⟩
        rw [← hS0] at d0
        rw [← hS1] at d1
        have d0r := cell_regrown d0
        have d1r := cell_regrown d1
        obtain ⟨q, hq⟩ : ∃ q, decide (b[k] < b[k + 1]) = q := ⟨_, rfl⟩
        have CT := hid (fun wx => txLess_any b[k] b[k + 1] S0 S1 hS0 hS1 wx hl0 hl1 q hq)
        rw [hq] at HT
        have hkI : (k : Int) ≤ 140737488355328 := by omega
        have hsub : (k : Int) + 1 - 1 = (k : Int) := by omega
        have hk11 : ((k + 1 : Nat) : Int) = (k : Int) + 1 := by omega
        have HX := hid X
        clear c1 hS0 hS1 hq hl0 hl1 X
        cases q with
        | true =>
          go_wp2
          refine wp_region_walk [(0, true), (1, true), (2, true), (3, true), (4, true), (5, true), (6, true), (7, true), (8, true), (9, false), (10, true)] (by kernel_rfl) (by kernel_rfl) (fun _ _ _ _ _ h => h) (by kernel_rfl) (by rfl) ?_
          simp only [List.filterMap_cons, List.filterMap_nil, List.getElem?_toArray, List.getElem?_cons_zero, List.getElem?_cons_succ, Option.map_some]
          repeat (refine wpM_val (by rfl) ?_; intro K hK; go_big_quiet_op; go_big_quiet_on)
          refine wpM_do (by rfl) ?_
          intro K hK
          go_simp
          refine Calls.mono (CT.out _) ?_
          rintro e y1 ⟨rfl, hx⟩
          have Y1 : Hid (Ext wr y1) := hid (Ext.then ((ext_refl wr).draw) hx)
          refine hK _ _ Y1.out ?_
          clear K hK hx
          repeat (refine wpM_val (by rfl) ?_; intro K hK; go_big_quiet_op; go_big_quiet_on)
          refine wpM_nil ?_
          go_wp2
          go_roundw
          case rel => exact ⟨k + 1, by omega, by go_num, HT, HX.out.then Y1.out⟩
          case measure => simp [intOf] <;> omega
        | false =>
          have HRR := hid (H2.out (HF.out HT.out))
          go_wp2
          refine wp_region_walk [(0, true), (1, true), (2, true), (3, true), (4, true), (5, true), (6, true), (7, true), (8, true), (9, false), (10, true)] (by kernel_rfl) (by kernel_rfl) (fun _ _ _ _ _ h => h) (by kernel_rfl) (by rfl) ?_
          simp only [List.filterMap_cons, List.filterMap_nil, List.getElem?_toArray, List.getElem?_cons_zero, List.getElem?_cons_succ, Option.map_some]
          repeat (refine wpM_val (by rfl) ?_; intro K hK; go_big_quiet_op; go_big_quiet_on)
          refine wpM_do (by rfl) ?_
          intro K hK
          go_simp
          refine Calls.mono (CT.out _) ?_
          rintro e y1 ⟨rfl, hx⟩
          have Y1 : Hid (Ext wr y1) := hid (Ext.then ((ext_refl wr).draw) hx)
          refine hK _ _ Y1.out ?_
          clear K hK hx
          repeat (refine wpM_val (by rfl) ?_; intro K hK; go_big_quiet_op; go_big_quiet_on)
          refine wpM_nil ?_
          go_wp2
          go_returns
          exact ⟨by rw [HRR.out]; rfl, HX.out.then Y1.out⟩
      · have hltI : ¬ (k : Int) + 1 < (n : Int) := by omega
        have ht : b.take (k + 1) = b := List.take_of_length_le (by rw [HN.out]; omega)
        have HRR := hid (H1.out (by have := HA.out; rw [ht] at this; exact this))
        clear ht hlt
        go_wp2
        go_returns
        exact ⟨by rw [HRR.out]; rfl, X⟩
end Go.Proofs.Ytpheegfanljeeaa
