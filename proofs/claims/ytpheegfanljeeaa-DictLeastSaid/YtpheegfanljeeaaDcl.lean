/- Dict: the law Least: walk. -/
import Derived.Test.YtpheegfanljeeaaDch
namespace Go.Proofs.Ytpheegfanljeeaa
open Go.RowKit Hy
set_option maxRecDepth 100000 in
set_option maxHeartbeats 3200000 in
theorem dictLeast_walk (l : List (List UInt8)) (A : Option Addr) (n cap : Nat) (w : World) (hn : l.length = n) (hr : Rd w A (txs l)) (hnl : n ≤ 140737488355328) :
    Calls Try.prog 12 #[.slice A n cap] w fun e w' => e = .returned (.bool true) ∧ Ext w w' := by
  have HOF := hid (fun wx (hx : Ext w wx) => dOf_any l A n cap wx hn (hr.keep hx) (fun h => by have := rd_txs_none hr h; omega) hnl)
  have hnI : (n : Int) ≤ 140737488355328 := by omega
  by_cases hm2 : Dct.mny l = true
  · rw [Dct.of_many hm2] at HOF
    clear hn hr hnl hm2
    go_enter Try.func12, Try.ntmps12
    go_wp2_with fail
    refine Calls.mono (HOF.out _ (ext_refl _)) ?_
    rintro e w1 ⟨B1, c1, C1, d1, rfl, _, _, hx⟩
    have Xp := hid hx
    clear hx
    go_wp2_with fail
    refine Calls.mono (dictBegun_any _) ?_
    rintro e w2 ⟨rfl, hx⟩
    replace Xp := hid (Xp.out.then hx)
    clear hx
    go_wp2
    go_returns
    exact ⟨rfl, Xp.out⟩
  · rw [Bool.not_eq_true] at hm2
    rw [Dct.of_ok hm2] at HOF
    have h64 := (Dct.mny_false hm2).1
    obtain ⟨s1, s2⟩ := Dct.bk_spec l
    have hbl := Dct.bk_len l
    have hch := Dct.bk_chk l hm2
    have HFD := hid (fun (t : List UInt8) (ht : t ∈ l) (s : ByteArray) (hs : s = ⟨t.toArray⟩) B c wx (h : Rd wx B (txs (Dct.bk l))) => by
      have := dFind_any (Dct.bk l) B (Dct.bk l).length c s wx rfl h (by omega)
      rw [show s.data.toList = t by rw [hs], Dct.fnd_ok hch, hch, decide_eq_true ((s2 t).2 ht)] at this
      exact this)
    have HPL := hid (fun t => Dct.plc_le (Dct.bk l) t)
    generalize Dct.bk l = bk at *
    generalize Dct.cds l = cd at *
    have HN := hid hn
    have HR := hid hr
    have HM := hid s2
    have HP := hid s1
    have HB64 := hid (show bk.length ≤ 64 by omega)
    have hb64 : (bk.length : Int) ≤ 64 := by omega
    have hn64 : (n : Int) ≤ 64 := by omega
    clear hn hr hnl hm2 h64 s1 s2 hbl hch hnI
    go_enter Try.func12, Try.ntmps12
    go_wp2_with fail
    refine Calls.mono (HOF.out _ (ext_refl _)) ?_
    rintro e w1 ⟨B1, c1, C1, d1, rfl, h1, _, hx⟩
    have Xp := hid hx
    have R1 := hid h1
    clear hx h1
    go_wp2_with fail
    refine Calls.mono (dictBegun_any _) ?_
    rintro e w2 ⟨rfl, hx⟩
    replace Xp := hid (Xp.out.then hx)
    replace R1 := hid (R1.out.keep hx)
    clear hx
    go_wp2
    go_loopw [6, 7, 8, 9] (fun ix _ _ _ wr => ∃ i : Nat, i ≤ n ∧ ix = .int .i64 i ∧ Hid (Ext w2 wr)) (fun ix _ _ _ _ => n - (intOf ix).toNat)
    case atStart => exact ⟨0, Nat.zero_le _, rfl, ext_refl _⟩
    case round =>
      obtain ⟨i, hi, rfl, HX⟩ := hrel
      by_cases hlt : i < n
      · have hltI : (i : Int) < (n : Int) := by omega
        have hil : i < l.length := by rw [HN.out]; exact hlt
        obtain ⟨b1, o1, e1, l1, cc⟩ := ((HR.out.keep Xp.out).keep HX.out).texts i hil
        cases e1
        have d0 := cc i hil
        obtain ⟨S0, hS0⟩ : ∃ S : ByteArray, S = ⟨l[i].toArray⟩ := ⟨_, rfl⟩
        rw [← hS0] at d0
        have CF := hid (HFD.out l[i] (List.getElem_mem hil) S0 hS0 B1 c1 wr (R1.out.keep HX.out))
        have hpl := HPL.out l[i]
        generalize Dct.plc bk l[i] = p at *
        have hpI : (p : Int) ≤ 64 := by omega
        clear cc hS0 hil hlt hpl
        go_wp2_with fail
        refine Calls.mono CF.out ?_
        rintro e w3 ⟨rfl, hx⟩
        have X3 := hid (HX.out.then hx)
        clear hx
        go_wp2
        go_roundw
        case rel => exact ⟨i + 1, by omega, by go_num, X3⟩
        case measure => simp [intOf] <;> omega
      · obtain rfl : i = n := by omega
        refine wp_gen (fun w' => Ext w2 w') HX.out ?_
        rintro wb hxb
        have HXB := hid hxb
        clear hlt hxb HX
        go_wp2
        go_loopw [10, 11, 12] (fun kx _ _ ws => ∃ k : Nat, k ≤ bk.length ∧ kx = .int .i64 k ∧ Hid (Ext wb ws)) (fun kx _ _ _ => bk.length - (intOf kx).toNat)
        case atStart => exact ⟨0, Nat.zero_le _, rfl, ext_refl _⟩
        case round =>
          obtain ⟨k, hk, rfl, HXX⟩ := hrel
          by_cases hkb : k < bk.length
          · have hkI : (k : Int) < (bk.length : Int) := by omega
            have HKB := hid hkb
            obtain ⟨g1, p1, e1, l1, cc⟩ := ((R1.out.keep HXB.out)).texts k hkb
            cases e1
            obtain ⟨g2, p2, e2, l2, c2⟩ := ((HR.out.keep Xp.out).keep HXB.out).texts 0 (by
              have := (HM.out bk[k]).1 (List.getElem_mem hkb)
              exact List.length_pos_of_mem this)
            cases e2
            have CB := hid cc
            have CL := hid c2
            have hL1 := hid l1
            have hL2 := hid l2
            clear cc c2 l1 l2 hkb
            go_wp2
            go_loopw [11, 12] (fun f jx wt => ∃ j : Nat, j ≤ i ∧ jx = .int .i64 j ∧ f = .bool (decide (bk[k]'HKB.out ∈ l.take j)) ∧ Hid (Ext wb wt)) (fun _ jx _ => i - (intOf jx).toNat)
            case atStart => exact ⟨0, Nat.zero_le _, rfl, by simp, HXX⟩
            case round =>
              obtain ⟨j, hj, rfl, rfl, HX3⟩ := hrel
              have d0 := (HX3.out.cell (p := ⟨g1, p1 + k, none⟩) hL1.out).trans (CB.out k HKB.out)
              obtain ⟨S0, hS0⟩ : ∃ S : ByteArray, S = ⟨(bk[k]'HKB.out).toArray⟩ := ⟨_, rfl⟩
              have e0 : S0.toList = bk[k]'HKB.out := by rw [hS0, ByteArray.toList_mk]
              rw [← hS0] at d0
              by_cases hji : j < i
              · have hjI : (j : Int) < (i : Int) := by omega
                have hjl : j < l.length := by rw [HN.out]; exact hji
                have d1 := (HX3.out.cell (p := ⟨g2, p2 + j, none⟩) hL2.out).trans (CL.out j hjl)
                obtain ⟨S1, hS1⟩ : ∃ S : ByteArray, S = ⟨l[j].toArray⟩ := ⟨_, rfl⟩
                have e1 : S1.toList = l[j] := by rw [hS1, ByteArray.toList_mk]
                rw [← hS1] at d1
                have hst : (bk[k]'HKB.out ∈ l.take (j + 1)) ↔ (bk[k]'HKB.out ∈ l.take j ∨ bk[k]'HKB.out = l[j]) := by
                  rw [List.take_succ_eq_append_getElem hjl, List.mem_append, List.mem_singleton]
                by_cases hf : bk[k]'HKB.out ∈ l.take j
                · rw [decide_eq_true hf]
                  have HD := hid (show decide (bk[k]'HKB.out ∈ l.take (j + 1)) = true from decide_eq_true (hst.2 (.inl hf)))
                  clear hst hf e0 e1 hS0 hS1 hjl hji
                  go_wp2_with fail
                  go_quiet (fail)
                  go_wp2
                  go_roundw
                  case rel => exact ⟨j + 1, by omega, by go_num, by rw [HD.out], hid (HX3.out.draws _)⟩
                  case measure => simp [intOf] <;> omega
                · rw [decide_eq_false hf]
                  by_cases he : bk[k]'HKB.out = l[j]
                  · have HD := hid (show decide (bk[k]'HKB.out ∈ l.take (j + 1)) = true from decide_eq_true (hst.2 (.inr he)))
                    have hq : (S1.toList == S0.toList) = true := by rw [e0, e1, he]; simp
                    clear hst hf e0 e1 hS0 hS1 hjl hji he
                    go_wp2_with fail
                    go_quiet (fail)
                    go_wp2
                    go_roundw
                    case rel => exact ⟨j + 1, by omega, by go_num, by rw [HD.out], hid (HX3.out.draws _)⟩
                    case measure => simp [intOf] <;> omega
                  · have HD := hid (show decide (bk[k]'HKB.out ∈ l.take (j + 1)) = false from decide_eq_false (fun h => by rcases hst.1 h with h | h; exact hf h; exact he h))
                    have hq : (S1.toList == S0.toList) = false := by rw [e0, e1, beq_eq_false_iff_ne]; exact fun h => he h.symm
                    clear hst hf e0 e1 hS0 hS1 hjl hji he
                    go_wp2_with fail
                    go_quiet (fail)
                    go_wp2
                    go_roundw
                    case rel => exact ⟨j + 1, by omega, by go_num, by rw [HD.out], hid (HX3.out.draws _)⟩
                    case measure => simp [intOf] <;> omega
              · obtain rfl : j = i := by omega
                have hmem := (HM.out (bk[k]'HKB.out)).1 (List.getElem_mem HKB.out)
                rw [List.take_of_length_le (by rw [HN.out]; exact Nat.le_refl _), decide_eq_true hmem]
                rcases Nat.eq_zero_or_pos k with hk0 | hk0
                · have hk0I : ¬ (0 : Int) < (k : Int) := by omega
                  have hk0b : decide ((0 : Int) < (k : Int)) = false := decide_eq_false hk0I
                  clear hmem e0 hS0 hji
                  go_wp2_with fail
                  go_quiet (fail)
                  go_wp2
                  go_roundw
                  case rel => exact ⟨k + 1, by have := HKB.out; omega, by go_num, hid (HX3.out.draws _)⟩
                  case measure => simp [intOf]; have := HKB.out; omega
                · obtain ⟨q, rfl⟩ : ∃ q, k = q + 1 := ⟨k - 1, by omega⟩
                  have hk0I : (0 : Int) < ((q + 1 : Nat) : Int) := by omega
                  have hq1 : ((q + 1 : Nat) : Int) - 1 = (q : Int) := by omega
                  have hqb : q < bk.length := by have := HKB.out; omega
                  have d1 := (HX3.out.cell (p := ⟨g1, p1 + q, none⟩) hL1.out).trans (CB.out q hqb)
                  obtain ⟨S1, hS1⟩ : ∃ S : ByteArray, S = ⟨bk[q].toArray⟩ := ⟨_, rfl⟩
                  have e1 : S1.toList = bk[q] := by rw [hS1, ByteArray.toList_mk]
                  rw [← hS1] at d1
                  have hlt := List.pairwise_iff_getElem.1 HP.out q (q + 1) hqb HKB.out (by omega)
                  have hq : (S1.toList == S0.toList) = false := by
                    rw [e0, e1, beq_eq_false_iff_ne]; intro h; rw [h] at hlt; exact Dct.lt_irr _ hlt
                  clear hmem e0 e1 hS0 hS1 hji hlt hqb
                  go_wp2_with fail
                  go_quiet (fail)
                  go_wp2
                  go_roundw
                  case rel => exact ⟨q + 1 + 1, by have := HKB.out; omega, by go_num, hid (HX3.out.draws _)⟩
                  case measure => simp [intOf]; have := HKB.out; omega
          · obtain rfl : k = bk.length := by omega
            clear hkb
            go_wp2
            go_returns
            exact ⟨rfl, Xp.out.then (HXB.out.then HXX.out)⟩
end Go.Proofs.Ytpheegfanljeeaa
