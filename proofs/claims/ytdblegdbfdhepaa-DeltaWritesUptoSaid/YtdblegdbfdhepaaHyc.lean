/- Hybrid: parts of a list: walk. -/
import Derived.Test.YtdblegdbfdhepaaHyb
import Derived.Test.YtdblegdbfdhepaaGhl
namespace Hy
open Go
def sLen : Value → Nat
  | .slice _ n _ => n
  | _ => 0
theorem u64s_flat (l : List Nat) : u64s l = l.flatMap fun n : Nat => [Value.int .u64 (n : Int)] := by
  unfold u64s
  induction l with
  | nil => rfl
  | cons b l ih => rw [List.flatMap_cons, List.map_cons, ih]; rfl
theorem Rd.u64from {w : World} {A : Option Addr} {l : List Nat} (h : Rd w A (u64s l)) (k cap : Nat) (hc : l.length ≤ cap) : Rd w (slF A k cap 1) (u64s (l.drop k)) := by
  rw [u64s_flat] at h ⊢
  exact Rd.from (f := fun n : Nat => [Value.int .u64 (n : Int)]) (m := 1) (fun _ => rfl) h k cap hc
end Hy
namespace Go.Proofs.Ytdblegdbfdhepaa
open Go.RowKit Hy
theorem PartsV.keep {w w' : World} {dead dead' : Nat → Prop} {P : List Hyb.Part} {xs : List Value} (h : PartsV w dead P xs) (hx : Ext w w') (hd : ∀ b, b < w.heap.size → dead b → dead' b) : PartsV w' dead' P xs := fun i p hi => by
  obtain ⟨v, e1, e2⟩ := h i p hi
  refine ⟨v, e1, ?_⟩
  cases p with
  | run x m => exact e2
  | blk l =>
    obtain ⟨c, cc, e3, r, d, lt⟩ := e2
    exact ⟨c, cc, e3, r.keep hx, hd c lt d, Nat.lt_of_lt_of_le lt hx.size⟩
theorem HySt.keep {base bo bp : Nat} {w w' : World} {P : List Hyb.Part} {o : List Nat} (h : HySt base bo bp w P o) (hx : Ext w w') : HySt base bo bp w' P o := by
  obtain ⟨vp, vo, xs, b1, b2, o1, o2, pv⟩ := h
  exact ⟨vp, vo, xs, b1.keep hx, b2.keep hx, own_ext o1 hx, own_ext o2 hx, pv.keep hx (fun _ _ h => h)⟩
theorem take_minl {α : Type} (l : List α) (n : Nat) : l.take (min n l.length) = l.take n := by
  rcases Nat.le_total n l.length with h | h
  · rw [Nat.min_eq_left h]
  · rw [Nat.min_eq_right h, List.take_length, List.take_of_length_le h]
theorem drop_minl {α : Type} (l : List α) (n : Nat) : l.drop (min n l.length) = l.drop n := by
  rcases Nat.le_total n l.length with h | h
  · rw [Nat.min_eq_left h]
  · rw [Nat.min_eq_right h, List.drop_length, List.drop_of_length_le h]
set_option maxRecDepth 100000 in
set_option maxHeartbeats 800000 in
theorem parts_any (l : List Nat) (A : Option Addr) (n cap : Nat) (w : World) (hn : l.length = n) (hr : Rd w A (u64s l)) (hcap : n ≤ cap) (hnl : n ≤ 64) :
    Calls Try.prog 82 #[.slice A n cap] w fun e w' => ∃ C c xs, e = .returned (.slice C (Hyb.parts [] l).length c) ∧ Rd w' C xs ∧ PartsV w' (fun _ => True) (Hyb.parts [] l) xs ∧ xs.length = (Hyb.parts [] l).length ∧ Ext w w' := by
  have HA := hid hr
  have HN := hid hn
  have HNL := hid hnl
  obtain ⟨V, hV⟩ : ∃ V, V = Hyb.parts [] l := ⟨_, rfl⟩
  rw [← hV]
  have HVL := hid (show V.length ≤ 200 by rw [hV]; have := Hyb.parts_len l.length l [] (Nat.le_refl _); omega)
  have HV := hid hV
  clear hr hV hnl
  go_enter Try.func82, Try.ntmps82
  go_wp2
  go_loopw [0] (fun c wr => ∃ (r : List Nat) (R : Option Addr) (rc : Nat) (P : List Hyb.Part) (o : List Nat), c = .slice R r.length rc ∧ r.length ≤ rc ∧ Hid (Rd w R (u64s r)) ∧ Hid (HySt (w.heap.size + 1 + 1) (w.heap.size + 1) w.heap.size wr P o) ∧ Hid (P ++ Hyb.parts o r = V) ∧ Hid (r.length + o.length ≤ 64) ∧ Hid (Ext w wr) ∧ Hid (w.heap.size + 1 + 1 ≤ wr.heap.size)) (fun c _ => sLen c)
  case atStart =>
    refine ⟨l, A, cap, [], [], by rw [HN.out], by rw [HN.out]; exact hcap, HA, hid ⟨.slice none 0 0, .slice none 0 0, [], ?_, ?_, ⟨rfl, .inl ⟨rfl, rfl⟩⟩, ⟨rfl, .inl ⟨rfl, rfl⟩⟩, fun i p hi => by simp at hi⟩, hid (by rw [List.nil_append]; exact HV.out.symm), hid (by rw [HN.out]; simpa using HNL.out), hid (((ext_refl w).new _).new _), hid (by simp)⟩
    · exact Blk.newAt (by simp)
    · exact (Blk.new w _ _).alloc _
  case round =>
    obtain ⟨r, R, rc, P, o, rfl, hrc, HR, HS, HP, HO, HX, HB⟩ := hrel
    cases r with
    | nil =>
      have HE : Hid (P ++ Hyb.shut o = V) := hid (by rw [← HP.out, Hyb.parts_nil])
      have HPL := hid (show P.length ≤ 200 by have := HVL.out; rw [← HE.out, List.length_append] at this; omega)
      have HC := hid (shut_any w.heap.size _ _ _ P o wr HS.out (by omega) (by omega) (by omega) (by omega) (by omega) HB.out (by have := HPL.out; omega) (by have := HO.out; omega))
      have h0 : ((([] : List Nat).length : Nat) : Int) = 0 := rfl
      clear HS HP hrc HR
      go_wp2_with fail
      refine Calls.mono HC.out ?_
      rintro e w2 ⟨rfl, hs, hb⟩
      have HX2 : Hid (Ext w w2) := hid (Below.trans HX.out hb)
      rw [HE.out] at hs
      obtain ⟨vp, vo, xs, b1, b2, o1, o2, pv⟩ := hs
      obtain ⟨C, c, rfl, hrd, _⟩ := Rd.owned o1
      have hc2 := b2.cell 0
      have HPV := hid pv
      have HRD := hid hrd
      have HLX := hid (show xs.length = V.length from by have := o1.1; omega)
      clear b1 b2 o1 o2 pv hrd hb
      go_wp2
      go_returns
      exact ⟨C, c, xs, rfl, HRD.out, HPV.out.keep (ext_refl _) (fun _ _ _ => trivial), HLX.out, HX2.out⟩
    | cons x r =>
      have hpos : (0 : Int) < ((x :: r).length : Int) := by simp
      have HRW := hid (row_any (x :: r) R (x :: r).length rc wr rfl (HR.out.keep HX.out) (by simp) (by have := HO.out; omega))
      obtain ⟨q, hq⟩ : ∃ q, q = (x :: r).length := ⟨_, rfl⟩
      obtain ⟨m, hm⟩ : ∃ m, m = Hyb.row (x :: r) := ⟨_, rfl⟩
      rw [← hq] at hpos hrc ⊢
      rw [← hm, ← hq] at HRW
      have HQ := hid hq
      have HM := hid hm
      have hml : (m : Int) ≤ (q : Int) := by rw [hm, hq]; exact Int.ofNat_le.2 (Hyb.row_le (x :: r))
      clear hq hm
      go_wp2_with fail
      refine Calls.mono HRW.out ?_
      rintro e w1 ⟨rfl, hx⟩
      have HS1 := hid (HS.out.keep hx)
      have HX1 := hid (HX.out.then hx)
      have HB1 := hid (Nat.le_trans HB.out hx.size)
      clear hx HS HX HB HRW
      by_cases h8 : 8 ≤ m
      · have h8I : (8 : Int) ≤ (m : Int) := by omega
        have HPR := hid (Hyb.parts_run o x r (by rw [← HM.out]; exact h8))
        have HPL := hid (show P.length ≤ 200 by have := HVL.out; rw [← HP.out, List.length_append] at this; omega)
        have HC := hid (shut_any w.heap.size _ _ _ P o w1 HS1.out (by omega) (by omega) (by omega) (by omega) (by omega) HB1.out (by have := HPL.out; omega) (by have := HO.out; omega))
        clear HS1 h8
        go_wp2_with fail
        refine Calls.mono HC.out ?_
        rintro e w2 ⟨rfl, hs, hb⟩
        have HX2 : Hid (Ext w w2) := hid (Below.trans HX1.out hb)
        have HB2 := hid (Nat.le_trans HB1.out hb.size)
        obtain ⟨vp, vo, xs, b1, b2, o1, o2, pv⟩ := hs
        obtain ⟨C, c, rfl, _⟩ := Rd.owned o1
        obtain ⟨rb, ro, rfl, rlt, rc1⟩ := HR.out.num0 (by simp)
        have dx := (HX2.out.cell (p := ⟨rb, ro, none⟩) rlt).trans (rc1 0 x rfl)
        have hc2 := b2.cell 0
        have hf2 := b2.frozen 0
        have HSL := fun wx : World => sl_from (P := Try.prog) (t := 22) (e := 33) (m := 1) Try.underlying22 (by kernel_rfl) (some ⟨rb, ro, none⟩) q rc .i64 m (by omega) wx
        have HRF := hid (HR.out.u64from m rc (by rw [← HQ.out]; exact hrc))
        obtain ⟨R2, hR2⟩ : ∃ R2, R2 = slF (some ⟨rb, ro, none⟩) m rc 1 := ⟨_, rfl⟩
        rw [← hR2] at HSL HRF
        have HPV := hid pv
        have HO1 := hid o1
        have HO2 := hid o2
        have HK1 := hid b1
        have HK2 := hid b2
        have HNB := hid (show (Value.slice C (P ++ Hyb.shut o).length c).ownBlock ≠ some (w.heap.size + 1) from fun e => by have := (o1.lt _ e).1; omega)
        have HNP := hid (show (Value.slice C (P ++ Hyb.shut o).length c).ownBlock ≠ some w.heap.size from fun e => by have := (o1.lt _ e).1; omega)
        have HNE := hid (own_ne o2 o1 (by decide))
        have HPQ := hid (show (P ++ Hyb.shut o).length ≤ 200 by have := HVL.out; rw [← HP.out, HPR.out, ← List.append_assoc, List.length_append] at this; omega)
        obtain ⟨np, hnp⟩ : ∃ np, np = (P ++ Hyb.shut o).length := ⟨_, rfl⟩
        rw [← hnp] at HO1 HNB HNP HNE HPV HPQ hc2 HK2
        have HNPE := hid hnp
        clear hb b1 b2 o1 o2 pv rc1 HC hR2 hnp
        go_wp2_with fail
        have hc2r := cell_regrown hc2
        have dxr := cell_regrown dx
        refine wp_region_late [8, 9] [] [(0, true), (1, true), (2, true), (3, true), (4, true), (5, true), (6, false), (7, false), (8, false), (9, false)] (by kernel_rfl) (by kernel_rfl) (fun _ _ _ _ _ h => h) (by kernel_rfl) (by rfl) ?_
        simp only [List.filterMap_cons, List.filterMap_nil, List.getElem?_toArray, List.getElem?_cons_zero, List.getElem?_cons_succ, Option.map_some, List.contains_cons, List.contains_nil, Nat.reduceBEq, Bool.or_false, Bool.or_true]
        repeat (refine wpL_val (by rfl) ?_; intro K hK; go_big_quiet_op; go_big_quiet_on)
        refine wpL_do (by rfl) ?_
        intro K hK
        go_simp
        have XD : Ext w2 w2.drew := Ext.draw (ext_refl w2)
        refine hK _ _ XD ?_
        clear K hK
        refine wpL_do (by rfl) ?_
        intro K hK
        go_simp
        have hXA : Ext w2 (w2.drew.alloc (.cells #[.iface 105 (.agg #[.int .u64 (x : Int), .int .i64 (m : Int)])] 88)) := Ext.new XD _
        refine hK _ _ hXA ?_
        clear K hK hc2r dxr
        refine wpL_late (by rfl) ?_
        intro K hK
        refine wp_app (.tmp 17) (.tmp 24) rowPt rfl _ np xs rfl (own_ext HO1.out hXA) _ 1 [.iface 105 (.agg #[.int .u64 (x : Int), .int .i64 (m : Int)])] rfl (Src.rd Try.underlying85 _ 1 1 _ rfl (rd_lit rfl rfl) (fun u hu => by rw [List.mem_singleton] at hu; subst hu; rfl) (fun h => by cases h)) (by have := HPQ.out; unfold maxLen; omega) (by have := HPQ.out; omega) (by have := HB2.out; simp; omega) ?_
        intro v3 w3 hown3 hgr3 hat3 hbel3
        refine hK _ _ ?_
        clear K hK
        obtain ⟨C3, c3, rfl, _⟩ := Rd.owned hown3
        have B13 := (blk_grown ((HK1.out.drew).alloc _) hgr3 HNB.out)
        have B23 := (blk_grown ((HK2.out.drew).alloc _) hgr3 HNP.out)
        have hc23 := B23.cell 0
        have hf23 := B23.frozen 0
        have HB13 := hid B13
        have HB23 := hid B23
        have HO3 := hid hown3
        have HG3 := hid hgr3
        have HA3 := hid hat3
        have HL3 := hid hbel3
        clear hown3 hgr3 hat3 hbel3 B13 B23 hc2 hf2 dx
        refine wpL_late (by rfl) ?_
        intro K hK
        go_simp
        refine hK _ _ ?_
        clear K hK
        refine wpL_nil ?_
        go_wp2
        go_roundw
        case rel =>
          have hsz : w2.heap.size < (w2.drew.alloc (.cells #[.iface 105 (.agg #[.int .u64 (x : Int), .int .i64 (m : Int)])] 88)).heap.size := by simp
          have P1 : PartsV w3 (fun b => w.heap.size + 1 + 1 ≤ b ∧ (Value.slice C3 (np + 1) c3).ownBlock ≠ some b ∧ vo.ownBlock ≠ some b) (P ++ Hyb.shut o) xs :=
            (HPV.out.keep (dead' := fun b => (w.heap.size + 1 + 1 ≤ b ∧ (Value.slice C np c).ownBlock ≠ some b ∧ vo.ownBlock ≠ some b) ∧ b < w2.heap.size) hXA (fun b hb h => ⟨h, hb⟩)).grown HG3.out (fun b h => h.1.2.1) (fun b _ h => by
              refine ⟨h.1.1, ?_, h.1.2.2⟩
              have h1 := h.1.2.1
              have h2 := h.2
              rcases HA3.out with e | e
              · rw [e]; exact h1
              · rw [e]; intro e2; injection e2 with e2; have h4 : w2.heap.size < b := by rw [← e2]; exact hsz
                omega)
          have P2 := P1.snoc (v := .iface 105 (.agg #[.int .u64 (x : Int), .int .i64 (m : Int)])) (q := .run x m) (by have := HO3.out.1; simp at this; rw [← HNPE.out]; omega) rfl
          refine ⟨(x :: r).drop m, R2, rc - m, P ++ Hyb.shut o ++ [.run x m], [], by rw [List.length_drop, ← HQ.out], by rw [List.length_drop, ← HQ.out]; omega, HRF, hid ⟨.slice C3 (np + 1) c3, vo, xs ++ [.iface 105 (.agg #[.int .u64 (x : Int), .int .i64 (m : Int)])], ?_, ?_, ?_, ?_, ?_⟩, ?_, ?_, ?_, ?_⟩
          · exact HB13.out.far (by simp) _
          · exact HB23.out.set 0 _
          · rw [List.length_append, ← HNPE.out]
            exact own_but HO3.out (but_put _ _ _) (by show w.heap.size < _; omega)
          · exact own_but (own_grown (own_ext HO2.out hXA) HG3.out (HNE.out.imp id Ne.symm)) (but_put _ _ _) (by show w.heap.size < _; omega)
          · refine P2.grown (but_put _ ⟨w.heap.size, 0, none⟩ _) (fun c hc e => ?_) (fun _ _ h => h)
            injection e with e; have := hc.1; simp only at e; omega
          · refine hid ?_
            rw [← HP.out, HPR.out, ← HM.out]
            simp
          · have := HO.out; exact hid (by rw [List.length_drop, List.length_nil]; omega)
          · exact hid (Below.setCell (Below.trans HX2.out (Below.trans (hXA.mono (by have := HB2.out; omega)) (HL3.out.mono (by omega)))) (Nat.le_refl _) _)
          · have h1 := HL3.out.size
            have h2 := HB2.out
            exact hid (by simp at h1 ⊢; omega)
        case measure => simp [sLen]; omega
      · have hp8 := HO.out
        obtain ⟨p, hp⟩ : ∃ p, p = min 8 q := ⟨_, rfl⟩
        have hpI : min (8 : Int) (q : Int) = (p : Int) := by omega
        have hpq : (p : Int) ≤ (q : Int) := by omega
        have hp64 : (p : Int) ≤ 8 := by omega
        have h8I : ¬ (8 : Int) ≤ (m : Int) := by omega
        have HPB := hid (Hyb.parts_blk o x r (by rw [← HM.out]; omega))
        have HTK := hid (show (x :: r).take 8 = (x :: r).take p by rw [hp, HQ.out]; exact (take_minl (x :: r) 8).symm)
        have HDR := hid (show (x :: r).drop 8 = (x :: r).drop p by rw [hp, HQ.out]; exact (drop_minl (x :: r) 8).symm)
        have HTL := hid (show ((x :: r).take p).length = p by rw [List.length_take, ← HQ.out]; omega)
        obtain ⟨vp, vo, xs, b1, b2, o1, o2, pv⟩ := HS1.out
        obtain ⟨C, c, rfl, _⟩ := Rd.owned o2
        have hc1 := b1.cell 0
        have hf1 := b1.frozen 0
        have HSL := fun wx : World => sl_from (P := Try.prog) (t := 22) (e := 33) (m := 1) Try.underlying22 (by kernel_rfl) R q rc .i64 p (by omega) wx
        have HST := fun wx : World => sl_to (P := Try.prog) (t := 22) (e := 33) (m := 1) Try.underlying22 (by kernel_rfl) R q rc .i64 p (by omega) wx
        have HRF := hid (HR.out.u64from p rc (by rw [← HQ.out]; exact hrc))
        have HRT := hid (show Rd w R (u64s ((x :: r).take p)) from by
          have h := HR.out
          rw [← List.take_append_drop p (x :: r), u64s_app] at h
          exact h.pre)
        have HRN := hid (fun h : R = none => show p = 0 from by
          have h2 := HR.out
          have : Rd w none (u64s (x :: r)) := by rw [← h]; exact h2
          obtain ⟨_, _, e, _⟩ := this (by simp [u64s])
          cases e)
        obtain ⟨R2, hR2⟩ : ∃ R2, R2 = slF R p rc 1 := ⟨_, rfl⟩
        rw [← hR2] at HSL HRF
        have HPV := hid pv
        have HO1 := hid o1
        have HO2 := hid o2
        have HK1 := hid b1
        have HK2 := hid b2
        have HNB := hid (show (Value.slice C o.length c).ownBlock ≠ some (w.heap.size + 1) from fun e => by have := (o2.lt _ e).1; omega)
        have HNP := hid (show (Value.slice C o.length c).ownBlock ≠ some w.heap.size from fun e => by have := (o2.lt _ e).1; omega)
        have HNE := hid (own_ne o1 o2 (by decide))
        obtain ⟨k, hk⟩ : ∃ k, k = o.length := ⟨_, rfl⟩
        rw [← hk] at HO2 HNB HNP HNE HPV hc1 HK1
        have HKE := hid hk
        have hkI : (k : Int) ≤ 64 := by omega
        clear b1 b2 o1 o2 pv hR2 hk HS1 h8 hp hp8
        go_wp2_with fail
        have hc1r := cell_regrown hc1
        refine wp_region_late [4, 5] [] [(0, true), (1, true), (2, true), (3, true), (4, false), (5, false)] (by kernel_rfl) (by kernel_rfl) (fun _ _ _ _ _ h => h) (by kernel_rfl) (by rfl) ?_
        simp only [List.filterMap_cons, List.filterMap_nil, List.getElem?_toArray, List.getElem?_cons_zero, List.getElem?_cons_succ, Option.map_some, List.contains_cons, List.contains_nil, Nat.reduceBEq, Bool.or_false, Bool.or_true]
        repeat (refine wpL_val (by rfl) ?_; intro K hK; go_big_quiet_op; go_big_quiet_on)
        have XD : Ext w1 w1.drew := Ext.draw (ext_refl w1)
        refine wpL_late (by rfl) ?_
        intro K hK
        refine wp_app (.tmp 29) (.tmp 32) rowBk rfl _ k (u64s o) rfl (own_ext HO2.out XD) _ p (u64s ((x :: r).take p)) rfl (Src.rd Try.underlying22 R p rc _ (by rw [u64s_len, HTL.out, Nat.mul_one]) (HRT.out.keep (HX1.out.then XD)) (u64s_one _) HRN.out) (by unfold maxLen; omega) (by omega) (by have := HB1.out; simp; omega) ?_
        intro v3 w3 hown3 hgr3 hat3 hbel3
        refine hK _ _ ?_
        clear K hK
        obtain ⟨C3, c3, rfl, _⟩ := Rd.owned hown3
        have B13 := (blk_grown (HK1.out.drew) hgr3 HNB.out)
        have B23 := (blk_grown (HK2.out.drew) hgr3 HNP.out)
        have hc13 := B13.cell 0
        have hf13 := B13.frozen 0
        have HB13 := hid B13
        have HB23 := hid B23
        have HO3 := hid hown3
        have HG3 := hid hgr3
        have HA3 := hid hat3
        have HL3 := hid hbel3
        clear hown3 hgr3 hat3 hbel3 B13 B23 hc1 hf1 hc1r
        refine wpL_late (by rfl) ?_
        intro K hK
        go_simp
        refine hK _ _ ?_
        clear K hK
        refine wpL_nil ?_
        go_wp2
        go_roundw
        case rel =>
          have P1 : PartsV w3 (fun b => w.heap.size + 1 + 1 ≤ b ∧ vp.ownBlock ≠ some b ∧ (Value.slice C3 (k + p) c3).ownBlock ≠ some b) P xs :=
            (HPV.out.keep (dead' := fun b => (w.heap.size + 1 + 1 ≤ b ∧ vp.ownBlock ≠ some b ∧ (Value.slice C k c).ownBlock ≠ some b) ∧ b < w1.heap.size) XD (fun b hb h => ⟨h, hb⟩)).grown HG3.out (fun b h => h.1.2.2) (fun b _ h => by
              refine ⟨h.1.1, h.1.2.1, ?_⟩
              have h1 := h.1.2.2
              have h2 := h.2
              rcases HA3.out with e | e
              · rw [e]; exact h1
              · rw [e]; intro e2; injection e2 with e2; have h4 : w1.heap.size = b := e2
                omega)
          refine ⟨(x :: r).drop p, R2, rc - p, P, o ++ (x :: r).take p, by rw [List.length_drop, ← HQ.out], by rw [List.length_drop, ← HQ.out]; omega, HRF, hid ⟨vp, .slice C3 (k + p) c3, xs, ?_, ?_, ?_, ?_, ?_⟩, ?_, ?_, ?_, ?_⟩
          · exact HB13.out.set 0 _
          · exact HB23.out.far (by simp) _
          · exact own_but (own_grown (own_ext HO1.out XD) HG3.out (HNE.out.imp id Ne.symm)) (but_put _ _ _) (by show w.heap.size + 1 < _; omega)
          · rw [List.length_append, HTL.out, ← HKE.out, u64s_app]
            exact own_but HO3.out (but_put _ _ _) (by show w.heap.size + 1 < _; omega)
          · refine P1.grown (but_put _ ⟨w.heap.size + 1, 0, none⟩ _) (fun c hc e => ?_) (fun _ _ h => h)
            injection e with e; have := hc.1; simp only at e; omega
          · refine hid ?_
            rw [← HP.out, HPB.out, HTK.out, HDR.out]
          · have := HO.out
            have h2 := HTL.out
            exact hid (by rw [List.length_drop, List.length_append, h2, ← HQ.out, ← HKE.out]; rw [← HQ.out, ← HKE.out] at this; omega)
          · exact hid (Below.setCell (Below.trans HX1.out (Below.trans (XD.mono (by have := HB1.out; omega)) (HL3.out.mono (by omega)))) (Nat.le_succ _) _)
          · have h1 := HL3.out.size
            have h2 := HB1.out
            exact hid (by simp at h1 ⊢; omega)
        case measure => simp [sLen]; omega
end Go.Proofs.Ytdblegdbfdhepaa
