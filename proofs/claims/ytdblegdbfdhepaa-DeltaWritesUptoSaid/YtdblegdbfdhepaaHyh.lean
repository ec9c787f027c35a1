/- Hybrid: the document's sameFrom, HybridBytes: walks. -/
import Derived.Test.YtdblegdbfdhepaaHyr
import Derived.Test.YtdblegdbfdhepaaHyq
import Derived.Test.YtdblegdbfdhepaaHyc
import Derived.Test.YtdblegdbfdhepaaVob
import Derived.Test.YtdblegdbfdhepaaBrf
namespace Hy.Hyb
open Go
theorem len_blk_big (w : Nat) (hw : w ≤ 64) (o : List Nat) : (flat w (shut o)).length ≤ 73 * o.length := by
  by_cases h0 : o = []
  · subst h0; rw [shut_nil, flat_nil]; simp
  · rw [shut_of o h0, flat_cons, flat_nil, List.append_nil, bytes_blk, List.length_append, Bits.packed_len, pad_len, Vary.wr_len]
    have h1 := Vary.beh_le8 (2 * ((o.length + 7) / 8 * 8) / 8 + 1)
    have hpos := List.length_pos_iff.2 h0
    have h2 : (o.length + 7) / 8 * 8 * w ≤ (o.length + 7) / 8 * 8 * 64 := Nat.mul_le_mul_left _ hw
    unfold Bits.size
    omega
theorem len_parts_big (w : Nat) (hw : w ≤ 64) : ∀ (n : Nat) (l o : List Nat), l.length ≤ n → (flat w (parts o l)).length ≤ 73 * (o.length + l.length) := by
  intro n
  induction n with
  | zero =>
    intro l o hn
    obtain rfl : l = [] := List.length_eq_zero_iff.1 (by omega)
    rw [parts_nil]
    have := len_blk_big w hw o
    simp only [List.length_nil]; omega
  | succ n ih =>
    intro l o hn
    cases l with
    | nil => exact ih [] o (by simp)
    | cons x l =>
      by_cases h8 : 8 ≤ row (x :: l)
      · have hrl := row_le (x :: l)
        have hdl : ((x :: l).drop (row (x :: l))).length = (x :: l).length - row (x :: l) := List.length_drop
        rw [parts_run o x l h8]
        generalize row (x :: l) = m at *
        generalize (x :: l).drop m = r at *
        have h2 := ih r [] (by omega)
        have h3 := len_blk_big w hw o
        have h4 := Vary.beh_le8 (2 * m)
        rw [flat_app, flat_cons, List.length_append, List.length_append, bytes_run, List.length_append, Bits.packed_len, Vary.wr_len]
        simp only [List.length_singleton, Bits.size, Nat.one_mul, List.length_nil, Nat.zero_add] at h2 ⊢
        have h5 : (w + 7) / 8 ≤ 8 := by omega
        omega
      · rw [parts_blk o x l (by omega)]
        have e := congrArg List.length (List.take_append_drop 8 (x :: l))
        rw [List.length_append] at e
        have := ih ((x :: l).drop 8) (o ++ (x :: l).take 8) (by simp at hn ⊢; omega)
        rw [List.length_append] at this
        omega
theorem raw_len_big (l : List Nat) (w : Nat) (hw : w ≤ 64) : (raw l w).length ≤ 73 * l.length := by
  have := len_parts_big w hw l.length l [] (Nat.le_refl _)
  simpa [raw] using this
end Hy.Hyb
namespace Go.Proofs.Ytdblegdbfdhepaa
open Go.RowKit Hy
set_option maxHeartbeats 400000 in
theorem sameFrom_any (l : List Nat) (A : Option Addr) (n cap j : Nat) (w : World) (hn : l.length = n) (hr : Rd w A (u64s l)) (hj : j < n) (hnl : n ≤ 2000000) :
    Calls Try.prog 55 #[.slice A n cap, .int .i64 j] w fun e w' => e = .returned (.int .i64 (Hyb.row (l.drop j) : Nat)) ∧ Ext w w' := by
  obtain ⟨b1, o1, rfl, l1, c1⟩ := hr.num0 (by omega)
  obtain ⟨y, hy⟩ : ∃ y, l[j]? = some y := ⟨_, List.getElem?_eq_getElem (by omega)⟩
  have hdl : (l.drop j).length = n - j := by rw [List.length_drop, hn]
  have hd0 : (l.drop j)[0]? = some y := by rw [List.getElem?_drop]; exact hy
  have HN := hid hn
  have C1 := hid c1
  have HJ := hid hj
  have hnI : (n : Int) ≤ 2000000 := by omega
  have hjI : (j : Int) < (n : Int) := by omega
  have HS := hid (fun (k x : Nat) (h1 : 1 ≤ k) h2 h3 h4 => Hyb.row_stop (l.drop j) k x y h1 h2 h3 hd0 h4)
  have HE := hid (fun h2 => Hyb.row_end (l.drop j) (by omega) h2)
  rw [hdl] at HE
  have dd0 := c1 j y hy
  obtain ⟨V, hV⟩ : ∃ V, V = Hyb.row (l.drop j) := ⟨_, rfl⟩
  rw [← hV] at HS HE ⊢
  have HY := hid hy
  have HY0 := hid hd0
  have HDP := hid (fun i => show (l.drop j)[i]? = l[j + i]? from List.getElem?_drop)
  clear hr c1 hnl hV hn hj hy hdl hd0
  go_enter Try.func55, Try.ntmps55
  go_wp2
  go_loopw [5] (fun c wr => ∃ k : Nat, k ≤ n - j ∧ c = .int .i64 k ∧ Hid (∀ i, i < k → (l.drop j)[i]? = (l.drop j)[0]?) ∧ Ext w wr) (fun c _ => n - j - (intOf c).toNat)
  case atStart => exact ⟨0, Nat.zero_le _, rfl, hid (fun i hi => by omega), ext_refl _⟩
  case round =>
    obtain ⟨k, hk, rfl, HT, X⟩ := hrel
    obtain ⟨p, hp⟩ : ∃ p, p = j + k := ⟨_, rfl⟩
    have hpI : (j : Int) + (k : Int) = (p : Int) := by omega
    have hwp : IntKind.i64.wrap (p : Int) = (p : Int) := by rw [IntKind.wrap_i64]; have := HJ.out; omega
    have hpl : (p : Int) ≤ 2000000 := by have := HJ.out; omega
    have d0 := (X.cell (p := ⟨b1, o1 + j, none⟩) l1).trans dd0
    by_cases hlt : k < n - j
    · have hltI : (p : Int) < (n : Int) := by have := HJ.out; omega
      obtain ⟨x, hx⟩ : ∃ x, l[p]? = some x := ⟨_, List.getElem?_eq_getElem (by rw [HN.out]; have := HJ.out; omega)⟩
      have d1 := (X.cell (p := ⟨b1, o1 + p, none⟩) l1).trans (C1.out p x hx)
      have HXX := hid (show (l.drop j)[k]? = some x by rw [HDP.out, ← hp]; exact hx)
      have HK := hid (show k = 0 → x = y from fun h => by rw [hp, h, Nat.add_zero, HY.out] at hx; injection hx with hx; exact hx.symm)
      clear hx dd0 hp
      by_cases hxy : x = y
      · subst hxy
        have hb : ((x : Int) == (x : Int)) = true := by simp
        go_wp2_with fail
        go_quiet (fail)
        go_wp2
        go_roundw
        case rel => exact ⟨k + 1, by omega, by go_num, hid (fun i hi => by
          rcases Nat.lt_or_ge i k with h4 | h4
          · exact HT.out i h4
          · rw [show i = k by omega, HXX.out, HY0.out]), X.draws _⟩
        case measure => simp [intOf]; omega
      · have hb : ((x : Int) == (y : Int)) = false := by rw [beq_eq_false_iff_ne]; omega
        have HK1 := hid (show 1 ≤ k by rcases Nat.eq_zero_or_pos k with h | h; exact absurd (HK.out h) hxy; exact h)
        go_wp2_with fail
        go_quiet (fail)
        go_wp2
        go_returns
        exact ⟨by rw [HS.out k x HK1.out HT.out HXX.out hxy]; rfl, X.draws _⟩
    · have hk2 : k = n - j := by omega
      have hdec : decide (p < n) = false := by have := HJ.out; rw [decide_eq_false_iff_not]; omega
      have HE2 := hid (HE.out (fun i h => HT.out i (by omega)))
      have HK2 := hid hk2
      have hgeI : (n : Int) ≤ (p : Int) := by have := HJ.out; omega
      clear dd0 hp hk2 hlt
      go_wp2_with fail
      go_quiet (fail)
      go_wp2
      go_returns
      exact ⟨by rw [HE2.out, HK2.out]; rfl, X.draws _⟩
theorem rd_mid {w : World} {A : Option Addr} {l : List Nat} {j x cap : Nat} (h : Rd w A (u64s l)) (hc : l.length ≤ cap) (hx : l[j]? = some x) : Rd w (slF A j cap 1) (u64s [x]) := by
  have h1 := h.u64from j cap hc
  obtain ⟨hj, rfl⟩ := List.getElem?_eq_some_iff.1 hx
  rw [List.drop_eq_getElem_cons hj, show l[j] :: l.drop (j + 1) = [l[j]] ++ l.drop (j + 1) from rfl, u64s_app] at h1
  exact h1.pre
set_option maxRecDepth 100000 in
set_option maxHeartbeats 3200000 in
theorem hybridBytes_any (l : List Nat) (A : Option Addr) (n cap wd : Nat) (w : World) (hn : l.length = n) (hr : Rd w A (u64s l)) (hcap : n ≤ cap) (hnl : n ≤ 1048576) (hl : ∀ x ∈ l, x < 2 ^ wd) (hwd : wd ≤ 64) :
    Calls Try.prog 22 #[.slice A n cap, .int .i64 wd] w fun e w' => e = .returned (.string ⟨(Hyb.raw l wd).toArray⟩) ∧ Ext w w' := by
  obtain ⟨V, hV⟩ : ∃ V, V = Hyb.raw l wd := ⟨_, rfl⟩
  have HL := hid (show V.length ≤ 100000000 by
    have := Hyb.raw_len_big l wd hwd
    rw [hV]; omega)
  rw [← hV]
  have HV := hid (show V = Hyb.flat wd (Hyb.parts [] (l.drop 0)) by rw [hV]; rfl)
  have HR := hid hr
  have HN := hid hn
  have HNL := hid hnl
  have HLW := hid hl
  have HWD := hid hwd
  have HCAP := hid hcap
  have hnI : (n : Int) ≤ 1048576 := by omega
  have hncI : (n : Int) ≤ (cap : Int) := by omega
  have hwI : (wd : Int) ≤ 64 := by omega
  clear hV hr hn hnl hl hwd hcap
  go_enter Try.func22, Try.ntmps22
  go_wp2
  go_loopw [5, 6, 7, 8, 9] (fun s a _ _ _ wr => ∃ (j : Nat) (S : ByteArray), j ≤ n + 7 ∧ a = .int .i64 j ∧ s = .string S ∧ Hid (S.data.toList ++ Hyb.flat wd (Hyb.parts [] (l.drop j)) = V) ∧ Ext w wr) (fun _ a _ _ _ _ => n + 7 - (intOf a).toNat)
  case atStart => exact ⟨0, _, by omega, rfl, rfl, hid (by rw [HV.out]; rfl), ext_refl _⟩
  case round =>
    obtain ⟨j, S, hj, rfl, rfl, HS, X⟩ := hrel
    by_cases hlt : j < n
    · have hltI : (j : Int) < (n : Int) := by omega
      have HX := hid X
      have CS := hid (fun wx (hx : Ext w wx) => sameFrom_any l A n cap j wx HN.out (HR.out.keep hx) hlt (by omega))
      obtain ⟨x, hx⟩ : ∃ x, l[j]? = some x := ⟨_, List.getElem?_eq_getElem (by rw [HN.out]; exact hlt)⟩
      have HXX := hid hx
      obtain ⟨m, hm⟩ : ∃ m, m = Hyb.row (l.drop j) := ⟨_, rfl⟩
      have hml : m ≤ n - j := by rw [hm]; have := Hyb.row_le (l.drop j); rw [List.length_drop, HN.out] at this; exact this
      have hmI : (m : Int) ≤ (n : Int) - (j : Int) := by omega
      have hSV : S.data.toList.length ≤ 100000000 := by have h1 := HL.out; rw [← HS.out, List.length_append] at h1; omega
      have hSs : S.size ≤ 100000000 := by have : S.data.toList.length = S.size := Array.length_toList; omega
      by_cases h8 : 8 ≤ m
      · have h8I : (8 : Int) ≤ (m : Int) := by omega
        have HF := hid (Hyb.flat_run l j wd x hx (by rw [← hm]; exact h8))
        rw [← hm] at HF CS
        have HVB := hid (fun wx => varyBytes_any (2 * m) wx (by omega))
        have HPK := hid (fun (wx : World) (hx2 : Ext w wx) => packedOf_any [x] (slF A j cap 1) 1 (cap - j) wd wx rfl (rd_mid (HR.out.keep hx2) (by rw [HN.out]; exact HCAP.out) hx) (fun y hy => by rw [List.mem_singleton] at hy; subst hy; exact HLW.out _ (List.mem_of_getElem? hx)) (by omega) HWD.out)
        have HSM := fun wx : World => sl_mid (P := Try.prog) (t := 22) (e := 33) (m := 1) Try.underlying22 (by kernel_rfl) A n cap .i64 .i64 j (j + 1) (by omega) (by have := HCAP.out; omega) wx
        rw [show j + 1 - j = 1 by omega] at HSM
        have hj1 : (((j + 1 : Nat) : Nat) : Int) = (j : Int) + 1 := by omega
        simp only [hj1] at HSM
        obtain ⟨R2, hR2⟩ : ∃ R2, R2 = slF A j cap 1 := ⟨_, rfl⟩
        rw [← hR2] at HSM HPK
        obtain ⟨q, hq⟩ : ∃ q, q = 2 * m := ⟨_, rfl⟩
        rw [← hq] at HVB HF
        have hq1 : 2 * (m : Int) = (q : Int) := by omega
        have hqI : (q : Int) ≤ 3000000 := by omega
        have hw2 : IntKind.i64.wrap (q : Int) = (q : Int) := by rw [IntKind.wrap_i64]; omega
        have hw3 : IntKind.u64.wrap (q : Int) = (q : Int) := by rw [IntKind.wrap_u64]; omega
        have hw4 : IntKind.i64.wrap ((j : Int) + 1) = (j : Int) + 1 := by rw [IntKind.wrap_i64]; omega
        obtain ⟨X1b, hX1b⟩ : ∃ X1b : ByteArray, X1b = ⟨(Vary.wr q).toArray⟩ := ⟨_, rfl⟩
        obtain ⟨X2b, hX2b⟩ : ∃ X2b : ByteArray, X2b = ⟨(Bits.packed [x] wd).toArray⟩ := ⟨_, rfl⟩
        have hz1 : X1b.size ≤ 9 := by rw [hX1b, str_size, Vary.wr_len]; have := Vary.beh_le8 q; omega
        have hz2 : X2b.size ≤ 100000000 := by
          rw [hX2b, str_size, Bits.packed_len, List.length_singleton]
          have := HWD.out; unfold Bits.size; omega
        have HSV := hid (show (S ++ (X1b ++ X2b)).data.toList ++ Hyb.flat wd (Hyb.parts [] (l.drop (j + m))) = V by rw [← HS.out, HF.out, hX1b, hX2b]; simp)
        rw [← hX1b] at HVB
        rw [← hX2b] at HPK
        clear hlt hx hm hml hSV h8 hq hX1b hX2b hR2 X
        go_wp2_with fail
        refine Calls.mono (CS.out _ HX.out) ?_
        rintro e w1 ⟨rfl, hx⟩
        have HX1 := hid (HX.out.then hx)
        clear hx HX
        go_wp2
        refine wp_region_walk [(0, true), (1, true), (2, true), (3, true), (5, true), (6, true), (7, true), (8, true), (9, true), (10, true), (4, false), (11, false), (12, true), (13, true), (14, true)] (by kernel_rfl) (by kernel_rfl) (fun _ _ _ _ _ h => h) (by kernel_rfl) (by rfl) ?_
        simp only [List.filterMap_cons, List.filterMap_nil, List.getElem?_toArray, List.getElem?_cons_zero, List.getElem?_cons_succ, Option.map_some]
        repeat (refine wpM_val (by rfl) ?_; intro K hK; go_big_quiet_op; go_big_quiet_on)
        have Y1 : Ext w1 w1.drew := Ext.draw (ext_refl w1)
        refine wpM_do (by rfl) ?_
        intro K hK
        go_simp
        refine Calls.mono (HVB.out _) ?_
        rintro e w2 ⟨rfl, hx⟩
        have Y2 := Y1.then hx
        refine hK _ _ Y2 ?_
        clear K hK hx
        refine wpM_do (by rfl) ?_
        intro K hK
        go_simp
        refine Calls.mono (HPK.out _ (HX1.out.then Y2)) ?_
        rintro e w3 ⟨rfl, hx⟩
        have Y3 := Y2.then hx
        refine hK _ _ Y3 ?_
        clear K hK hx
        repeat (refine wpM_val (by rfl) ?_; intro K hK; go_big_quiet_op; go_big_quiet_on)
        refine wpM_nil ?_
        have HXE := hid (HX1.out.then Y3)
        clear Y1 Y2 Y3
        go_wp2
        go_roundw
        case rel => exact ⟨j + m, _, by omega, by go_num, rfl, HSV, HXE.out⟩
        case measure => simp [intOf]; omega
      · have h8I : (m : Int) < 8 := by omega
        rw [← hm] at CS
        have HM8 := hid (show Hyb.row (l.drop j) < 8 by rw [← hm]; omega)
        have HLT := hid hlt
        clear hx hm hml hSV h8 X
        go_wp2_with fail
        refine Calls.mono (CS.out _ HX.out) ?_
        rintro e w1 ⟨rfl, hx⟩
        have HXA := hid (HX.out.then hx)
        clear hx HX hlt
        go_wp2
        go_loopw [6, 8, 9] (fun a v _ wr => ∃ (i : Nat) (B : List Nat), i ≤ n + 7 ∧ j ≤ i ∧ a = .int .i64 i ∧ Hid (wr.ownsRow w.heap.size 33 1 v B.length (u64s B)) ∧ Hid (Hyb.Open l j i B) ∧ Ext w wr) (fun a _ _ _ => n + 7 - (intOf a).toNat)
        case atStart => exact ⟨j, [], hj, Nat.le_refl _, rfl, hid (World.ownsRow_nil _ _ _ _), hid (Hyb.open_start l j), HXA.out⟩
        case round =>
          obtain ⟨i, B, hi, hji, rfl, HOW, HOP, X⟩ := hrel
          have HX1 := hid X
          clear X
          have HOL := hid (Hyb.open_len HOP.out)
          have hB1 : B.length ≤ 1048583 := by have := HOL.out; have := HN.out; have := HNL.out; omega
          by_cases hlt : i < n
          · have hltI : (i : Int) < (n : Int) := by omega
            have CS2 := hid (fun wx (hx : Ext w wx) => sameFrom_any l A n cap i wx HN.out (HR.out.keep hx) hlt (by omega))
            by_cases h8 : Hyb.row (l.drop i) < 8
            · have HST := hid (Hyb.open_step HOP.out (by rw [HN.out]; exact hlt) h8)
              obtain ⟨m2, hm2⟩ : ∃ m2, m2 = Hyb.row (l.drop i) := ⟨_, rfl⟩
              rw [← hm2] at CS2 h8
              have h8J : (m2 : Int) < 8 := by omega
              have hc0 : Hyb.chunk (l.drop i) 0 = [] := Hyb.chunk_zero _
              clear hm2 h8 HOL
              go_wp2_with fail
              refine Calls.mono (CS2.out _ HX1.out) ?_
              rintro e w4 ⟨rfl, Y2⟩
              have X1 := HX1.out.then Y2
              replace HOW := hid (own_ext HOW.out Y2)
              clear Y2 HX1
              go_wp2
              go_loopw [6, 8, 9] (fun a v c wr => ∃ k : Nat, k ≤ 8 ∧ c = .int .i64 k ∧ a = .int .i64 ((i + k : Nat) : Int) ∧ Hid (wr.ownsRow w.heap.size 33 1 v (B ++ Hyb.chunk (l.drop i) k).length (u64s (B ++ Hyb.chunk (l.drop i) k))) ∧ Ext w wr) (fun _ _ c _ => 8 - (intOf c).toNat)
              case atStart => exact ⟨0, by omega, rfl, rfl, by rw [hc0, List.append_nil]; exact HOW, X1⟩
              case round =>
                obtain ⟨k, hk, rfl, rfl, HO, X⟩ := hrel
                by_cases hk8 : k < 8
                · have hk8I : (k : Int) < 8 := by omega
                  have hsz := Hyb.chunk_len (l.drop i) k
                  obtain ⟨p, hp⟩ : ∃ p, p = i + k := ⟨_, rfl⟩
                  rw [← hp]
                  have hpI : (p : Int) ≤ 3000000 := by omega
                  have hpi : (p : Int) + 1 = ((i + (k + 1) : Nat) : Int) := by omega
                  by_cases hpn : p < n
                  · have hpnI : (p : Int) < (n : Int) := by omega
                    obtain ⟨y, hy⟩ : ∃ y, l[p]? = some y := ⟨_, List.getElem?_eq_getElem (by rw [HN.out]; exact hpn)⟩
                    have HCH := hid (Hyb.chunk_in (l.drop i) k y (by rw [List.getElem?_drop, ← hp]; exact hy))
                    obtain ⟨b1, o1, rfl, l1, c1⟩ := HR.out.num0 (by rw [HN.out]; omega)
                    have d0 := (X.cell (p := ⟨b1, o1 + p, none⟩) l1).trans (c1 p y hy)
                    obtain ⟨Q, hQ⟩ : ∃ Q, Q = B ++ Hyb.chunk (l.drop i) k := ⟨_, rfl⟩
                    rw [← hQ] at HO
                    have HQ1 := hid (show B ++ Hyb.chunk (l.drop i) (k + 1) = Q ++ [y] by rw [hQ, HCH.out, List.append_assoc])
                    have hQl : Q.length ≤ 3000000 := by rw [hQ, List.length_append, hsz]; omega
                    have HQL := hid hQl
                    clear c1 hy hQ hQl hsz hp hc0
                    go_wp2_with (at_builtin; refine wpList_app rfl (.tmp 54) (.tmp 59) rowU64 rfl _ Q.length _ rfl (own_ext HO.out ((ext_refl _).new _)) _ 1 (u64s [y]) rfl (Src.rd Try.underlying22 _ 1 1 _ rfl (rd_lit rfl rfl) (u64s_one _) (fun h => by cases h)) (by have := HQL.out; unfold maxLen; omega) (by have := HQL.out; omega) (by have := X.size; simp; omega) ?_; intro v' w3 hown3 hgrow hat hbel; have O3 := hid hown3; have X3 := hid ((X.new _).trans hbel); clear hown3 hgrow hat hbel)
                    go_roundw
                    case rel => exact ⟨k + 1, by omega, by go_num, by go_num, hid (by rw [HQ1.out, List.length_append, u64s_app]; exact O3.out), X3.out⟩
                    case measure => simp [intOf]; omega
                  · have hpnI : ¬ (p : Int) < (n : Int) := by omega
                    have HCH := hid (Hyb.chunk_out (l.drop i) k (by rw [List.length_drop, HN.out]; omega))
                    obtain ⟨Q, hQ⟩ : ∃ Q, Q = B ++ Hyb.chunk (l.drop i) k := ⟨_, rfl⟩
                    rw [← hQ] at HO
                    have HQ1 := hid (show B ++ Hyb.chunk (l.drop i) (k + 1) = Q ++ [0] by rw [hQ, HCH.out, List.append_assoc])
                    have hQl : Q.length ≤ 3000000 := by rw [hQ, List.length_append, hsz]; omega
                    have HQL := hid hQl
                    clear hQ hQl hsz hp hc0
                    go_wp2_with (at_builtin; refine wpList_app rfl (.tmp 61) (.tmp 62) rowU64 rfl _ Q.length _ rfl (own_ext HO.out ((ext_refl _).new _)) _ 1 (u64s [0]) rfl (Src.rd Try.underlying22 _ 1 1 _ rfl (rd_lit rfl rfl) (u64s_one _) (fun h => by cases h)) (by have := HQL.out; unfold maxLen; omega) (by have := HQL.out; omega) (by have := X.size; simp; omega) ?_; intro v' w3 hown3 hgrow hat hbel; have O3 := hid hown3; have X3 := hid ((X.new _).trans hbel); clear hown3 hgrow hat hbel)
                    go_roundw
                    case rel => exact ⟨k + 1, by omega, by go_num, by go_num, hid (by rw [HQ1.out, List.length_append, u64s_app]; exact O3.out), X3.out⟩
                    case measure => simp [intOf]; omega
                · obtain rfl : k = 8 := by omega
                  go_wp2
                  go_roundw
                  case rel => exact ⟨i + 8, B ++ Hyb.chunk (l.drop i) 8, by omega, by omega, rfl, HO, HST, X⟩
                  case measure => simp [intOf]; omega
            · have HROW := hid (show i < l.length → 8 ≤ Hyb.row (l.drop i) from fun _ => by omega)
              have HNE := hid (show i ≠ j from fun e => by have := HM8.out; rw [← e] at this; omega)
              obtain ⟨m2, hm2⟩ : ∃ m2, m2 = Hyb.row (l.drop i) := ⟨_, rfl⟩
              rw [← hm2] at CS2 h8
              have h8J : ¬ (m2 : Int) < 8 := by omega
              have hdec1 : decide (m2 < 8) = false := by simp; omega
              clear hm2 h8 HOL hB1
              go_wp2_with fail
              refine Calls.mono (CS2.out _ HX1.out) ?_
              rintro e w4 ⟨rfl, Y2⟩
              have X1 := HX1.out.then Y2
              replace HOW := hid (own_ext HOW.out Y2)
              clear Y2 HX1
              have HOE := hid (Hyb.open_end (w := wd) HOP.out HNE.out HROW.out)
              have HOL := hid (Hyb.open_len HOP.out)
              have HBLT := hid (Hyb.open_lt HOP.out wd HLW.out)
              obtain ⟨A2, c2, rfl, hrdb, _⟩ := Rd.owned HOW.out
              have HRB := hid hrdb
              have hB64 : B.length ≤ 1048583 := by have := HOL.out; have := HN.out; have := HNL.out; omega
              have HPK := hid (fun (wx : World) (h2 : Rd wx A2 (u64s B)) => packedOf_any B A2 B.length c2 wd wx rfl h2 HBLT.out (by omega) HWD.out)
              obtain ⟨q, hq⟩ : ∃ q, q = B.length / 8 * 2 + 1 := ⟨_, rfl⟩
              have HVB := hid (fun wx => varyBytes_any q wx (by omega))
              have hq1 : (B.length : Int) / 8 * 2 + 1 = (q : Int) := by omega
              have hq2 : (B.length : Int).tdiv 8 * 2 + 1 = (q : Int) := by rw [Int.tdiv_eq_ediv_of_nonneg (by omega)]; omega
              have hq3 : (B.length : Int) / 8 * 2 = (q : Int) - 1 := by omega
              have hq4 : (B.length : Int).tdiv 8 * 2 = (q : Int) - 1 := by rw [Int.tdiv_eq_ediv_of_nonneg (by omega)]; omega
              have hqI : (q : Int) ≤ 3000000 := by omega
              have hq0 : (1 : Int) ≤ (q : Int) := by omega
              have hw2 : IntKind.i64.wrap (q : Int) = (q : Int) := by rw [IntKind.wrap_i64]; omega
              have hw3 : IntKind.u64.wrap (q : Int) = (q : Int) := by rw [IntKind.wrap_u64]; omega
              have hw4 : IntKind.i64.wrap ((q : Int) - 1) = (q : Int) - 1 := by rw [IntKind.wrap_i64]; omega
              have hw5 : IntKind.i64.wrap ((q : Int) - 1 + 1) = (q : Int) := by rw [IntKind.wrap_i64]; omega
              have hw6 : (q : Int) - 1 + 1 = (q : Int) := by omega
              obtain ⟨bl, hbl⟩ : ∃ bl, bl = B.length := ⟨_, rfl⟩
              rw [← hbl] at HPK hq1 hq2 hq3 hq4 ⊢
              have hblI : (bl : Int) ≤ 1048583 := by omega
              have hwb1 : IntKind.i64.wrap ((bl : Int) / 8) = (bl : Int) / 8 := by rw [IntKind.wrap_i64]; omega
              have hwb2 : IntKind.i64.wrap ((bl : Int).tdiv 8) = (bl : Int).tdiv 8 := by rw [IntKind.wrap_i64, Int.tdiv_eq_ediv_of_nonneg (by omega)]; omega
              obtain ⟨X1b, hX1b⟩ : ∃ X1b : ByteArray, X1b = ⟨(Vary.wr q).toArray⟩ := ⟨_, rfl⟩
              obtain ⟨X2b, hX2b⟩ : ∃ X2b : ByteArray, X2b = ⟨(Bits.packed B wd).toArray⟩ := ⟨_, rfl⟩
              have hz1 : X1b.size ≤ 9 := by rw [hX1b, str_size, Vary.wr_len]; have := Vary.beh_le8 q; omega
              have hz2 : X2b.size ≤ 100000000 := by
                rw [hX2b, str_size, Bits.packed_len]
                have h := Nat.mul_le_mul hB64 HWD.out
                unfold Bits.size; omega
              have HSV := hid (show (S ++ (X1b ++ X2b)).data.toList ++ Hyb.flat wd (Hyb.parts [] (l.drop i)) = V by rw [← HS.out, HOE.out, hX1b, hX2b, hq]; simp)
              rw [← hX1b] at HVB
              rw [← hX2b] at HPK
              have HJI := hid hji
              have HIN := hid hi
              have HX1 := hid X1
              clear hrdb hB64 hq hX1b hX2b HOE HOL HBLT HOW hji hi X1 hbl
              go_wp2_with fail
              refine Calls.mono (HVB.out _) ?_
              rintro e w2 ⟨rfl, Y2⟩
              go_wp2_with fail
              refine Calls.mono (HPK.out _ (HRB.out.keep Y2)) ?_
              rintro e w3 ⟨rfl, hx⟩
              have Y3 := Ext.then Y2 hx
              clear hx
              have HXE := hid (HX1.out.then Y3)
              clear Y2 Y3
              go_wp2
              go_roundw
              case rel => exact ⟨i, _, HIN.out, rfl, rfl, HSV, HXE.out⟩
              case measure => have h1 := HJI.out; have h2 := HNE.out; have h3 := HIN.out; simp [intOf]; omega
          · have HROW := hid (show i < l.length → 8 ≤ Hyb.row (l.drop i) from fun h => by rw [HN.out] at h; omega)
            have HNE := hid (show i ≠ j from fun e => by have := HLT.out; omega)
            have hdec1 : decide (i < n) = false := by simp; omega
            have hge : (n : Int) ≤ (i : Int) := by omega
            clear hlt HOL hB1
            have X1 := HX1.out
            clear HX1
            have HOE := hid (Hyb.open_end (w := wd) HOP.out HNE.out HROW.out)
            have HOL := hid (Hyb.open_len HOP.out)
            have HBLT := hid (Hyb.open_lt HOP.out wd HLW.out)
            obtain ⟨A2, c2, rfl, hrdb, _⟩ := Rd.owned HOW.out
            have HRB := hid hrdb
            have hB64 : B.length ≤ 1048583 := by have := HOL.out; have := HN.out; have := HNL.out; omega
            have HPK := hid (fun (wx : World) (h2 : Rd wx A2 (u64s B)) => packedOf_any B A2 B.length c2 wd wx rfl h2 HBLT.out (by omega) HWD.out)
            obtain ⟨q, hq⟩ : ∃ q, q = B.length / 8 * 2 + 1 := ⟨_, rfl⟩
            have HVB := hid (fun wx => varyBytes_any q wx (by omega))
            have hq1 : (B.length : Int) / 8 * 2 + 1 = (q : Int) := by omega
            have hq2 : (B.length : Int).tdiv 8 * 2 + 1 = (q : Int) := by rw [Int.tdiv_eq_ediv_of_nonneg (by omega)]; omega
            have hq3 : (B.length : Int) / 8 * 2 = (q : Int) - 1 := by omega
            have hq4 : (B.length : Int).tdiv 8 * 2 = (q : Int) - 1 := by rw [Int.tdiv_eq_ediv_of_nonneg (by omega)]; omega
            have hqI : (q : Int) ≤ 3000000 := by omega
            have hq0 : (1 : Int) ≤ (q : Int) := by omega
            have hw2 : IntKind.i64.wrap (q : Int) = (q : Int) := by rw [IntKind.wrap_i64]; omega
            have hw3 : IntKind.u64.wrap (q : Int) = (q : Int) := by rw [IntKind.wrap_u64]; omega
            have hw4 : IntKind.i64.wrap ((q : Int) - 1) = (q : Int) - 1 := by rw [IntKind.wrap_i64]; omega
            have hw5 : IntKind.i64.wrap ((q : Int) - 1 + 1) = (q : Int) := by rw [IntKind.wrap_i64]; omega
            have hw6 : (q : Int) - 1 + 1 = (q : Int) := by omega
            obtain ⟨bl, hbl⟩ : ∃ bl, bl = B.length := ⟨_, rfl⟩
            rw [← hbl] at HPK hq1 hq2 hq3 hq4 ⊢
            have hblI : (bl : Int) ≤ 1048583 := by omega
            have hwb1 : IntKind.i64.wrap ((bl : Int) / 8) = (bl : Int) / 8 := by rw [IntKind.wrap_i64]; omega
            have hwb2 : IntKind.i64.wrap ((bl : Int).tdiv 8) = (bl : Int).tdiv 8 := by rw [IntKind.wrap_i64, Int.tdiv_eq_ediv_of_nonneg (by omega)]; omega
            obtain ⟨X1b, hX1b⟩ : ∃ X1b : ByteArray, X1b = ⟨(Vary.wr q).toArray⟩ := ⟨_, rfl⟩
            obtain ⟨X2b, hX2b⟩ : ∃ X2b : ByteArray, X2b = ⟨(Bits.packed B wd).toArray⟩ := ⟨_, rfl⟩
            have hz1 : X1b.size ≤ 9 := by rw [hX1b, str_size, Vary.wr_len]; have := Vary.beh_le8 q; omega
            have hz2 : X2b.size ≤ 100000000 := by
              rw [hX2b, str_size, Bits.packed_len]
              have h := Nat.mul_le_mul hB64 HWD.out
              unfold Bits.size; omega
            have HSV := hid (show (S ++ (X1b ++ X2b)).data.toList ++ Hyb.flat wd (Hyb.parts [] (l.drop i)) = V by rw [← HS.out, HOE.out, hX1b, hX2b, hq]; simp)
            rw [← hX1b] at HVB
            rw [← hX2b] at HPK
            have HJI := hid hji
            have HIN := hid hi
            have HX1 := hid X1
            clear hrdb hB64 hq hX1b hX2b HOE HOL HBLT HOW hji hi X1 hbl
            go_wp2_with fail
            refine Calls.mono (HVB.out _) ?_
            rintro e w2 ⟨rfl, Y2⟩
            go_wp2_with fail
            refine Calls.mono (HPK.out _ (HRB.out.keep Y2)) ?_
            rintro e w3 ⟨rfl, hx⟩
            have Y3 := Ext.then Y2 hx
            clear hx
            have HXE := hid (HX1.out.then Y3)
            clear Y2 Y3
            go_wp2
            go_roundw
            case rel => exact ⟨i, _, HIN.out, rfl, rfl, HSV, HXE.out⟩
            case measure => have h1 := HJI.out; have h2 := HNE.out; have h3 := HIN.out; simp [intOf]; omega
    · have hge : (n : Int) ≤ (j : Int) := by omega
      have HE := hid (show S = ⟨V.toArray⟩ from by
        have h1 := HS.out
        rw [List.drop_eq_nil_of_le (by rw [HN.out]; omega), Hyb.parts_nil, Hyb.shut_nil, Hyb.flat_nil, List.append_nil] at h1
        rw [← h1])
      clear hlt
      go_wp2
      go_returns
      exact ⟨by rw [← HE.out]; rfl, X⟩
end Go.Proofs.Ytdblegdbfdhepaa
