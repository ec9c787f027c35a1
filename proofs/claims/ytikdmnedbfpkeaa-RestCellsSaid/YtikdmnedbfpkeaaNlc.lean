/- Join: plain words; the walk. -/
import Derived.Test.YtikdmnedbfpkeaaNlb
import Derived.Test.YtikdmnedbfpkeaaStc
import Derived.Test.YtikdmnedbfpkeaaGho
namespace Hy.Cel
def jat (m : List Bool) (l : List Cel) (i : Nat) : Cel := if m.getD i false = true then l.getD ((m.take i).count true) O else O
@[irreducible] def jn (m : List Bool) (l : List Cel) : List Cel := (List.range m.length).map (jat m l)
theorem jn_len (m : List Bool) (l : List Cel) : (jn m l).length = m.length := by unfold jn; simp
theorem jn_take (m : List Bool) (l : List Cel) (i : Nat) (h : i < m.length) : (jn m l).take (i + 1) = (jn m l).take i ++ [jat m l i] := by
  rw [List.take_succ_eq_append_getElem (by rw [jn_len]; exact h)]
  unfold jn; simp
theorem jat_yes (m : List Bool) (l : List Cel) (i : Nat) (h : i < m.length) (hm : m[i] = true) (hp : (m.take i).count true < l.length) : jat m l i = l[(m.take i).count true] := by
  unfold jat
  rw [List.getD_eq_getElem?_getD, List.getElem?_eq_getElem h, Option.getD_some, if_pos hm, List.getD_eq_getElem?_getD, List.getElem?_eq_getElem hp, Option.getD_some]
theorem jat_no (m : List Bool) (l : List Cel) (i : Nat) (h : i < m.length) (hm : m[i] = false) : jat m l i = O := by
  unfold jat
  rw [List.getD_eq_getElem?_getD, List.getElem?_eq_getElem h, Option.getD_some, if_neg (by rw [hm]; simp)]
def jout (kind : Int) (m : List Bool) (l : List Cel) : List Cel := if jchk kind m l = 0 then jn m l else []
theorem jchk_ok {kind : Int} {m : List Bool} {l : List Cel} (h : jchk kind m l = 0) : cchk kind l = 0 ∧ anyNull l = false ∧ m.length ≤ 64 ∧ m.count true = l.length := by
  unfold jchk at h
  by_cases h1 : cchk kind l = 0
  · rw [if_neg (by simp [h1])] at h
    by_cases h2 : anyNull l = true
    · rw [if_pos h2] at h; cases h
    · rw [if_neg h2] at h
      by_cases h3 : 64 < m.length
      · rw [if_pos h3] at h; cases h
      · rw [if_neg h3] at h
        by_cases h4 : m.count true ≠ l.length
        · rw [if_pos h4] at h; cases h
        · exact ⟨h1, by simpa using h2, by omega, by simpa using h4⟩
  · rw [if_pos h1] at h; exact absurd h h1
theorem jchk_le (kind : Int) (m : List Bool) (l : List Cel) : jchk kind m l ≤ 7 := by
  unfold jchk
  have := cchk_le kind l
  (repeat' split) <;> omega
theorem count_to (m : List Bool) (i : Nat) : (m.take i).count true ≤ m.count true := (List.take_sublist i m).count_le true
theorem count_at (m : List Bool) (i : Nat) (h : i < m.length) (hm : m[i] = true) : (m.take i).count true < m.count true := by
  have h1 := count_take m i h
  have h2 := count_to m (i + 1)
  rw [hm] at h1
  simp only [if_true] at h1
  omega
end Hy.Cel
namespace Hy
open Go Go.RowKit
theorem own_far {base : Nat} {e : TypeId} {size : Nat} {v : Value} {n : Nat} {xs : List Value} {w w' : World} {g : Nat} (h : w.ownsRow base e size v n xs) (hg : v.ownBlock ≠ some g) (hF : ∀ g' t' cs', g' ≠ g → Blk w g' t' cs' → Blk w' g' t' cs') : w'.ownsRow base e size v n xs := by
  refine ⟨h.1, ?_⟩
  rcases h.2 with h | ⟨g', cap, cur, hv, hb, hh, r⟩
  · exact .inl h
  · refine .inr ⟨g', cap, cur, hv, hb, hF g' e cur (fun e => hg (by rw [hv, e]; rfl)) hh, r⟩
theorem own_not {base : Nat} {e : TypeId} {size : Nat} {v : Value} {n : Nat} {xs : List Value} {w : World} {g : Nat} (h : w.ownsRow base e size v n xs) (hg : w.heap.size ≤ g) : v.ownBlock ≠ some g := fun e => by
  have := (h.lt g e).2; omega
end Hy
namespace Go.Proofs.Ytikdmnedbfpkeaa
open Go.RowKit Hy
set_option maxHeartbeats 2000000 in
theorem join_yes (kind : Int) (m : List Bool) (l : List Cel) (A B : Option Addr) (n k ca cb : Nat) (w : World) (hm : m.length = k) (hrm : Rd w A (bls m)) (hn : l.length = n) (hr : Rd w B (cls l)) (hcap : n ≤ cb) (hj : Cel.jchk kind m l = 0) :
    Calls Try.prog 29 #[.int .i64 kind, .slice A k ca, .slice B n cb] w fun e w' => ∃ C c, e = .returned (.tuple #[.slice C k c, .int .i64 0]) ∧ Rd w' C (cls (Cel.jn m l)) ∧ Ext w w' := by
  obtain ⟨j1, j2, j3, j4⟩ := Cel.jchk_ok hj
  have hk64 : k ≤ 64 := by rw [← hm]; exact j3
  have hnk : n ≤ 64 := by rw [← hn, ← j4]; exact Nat.le_trans List.count_le_length j3
  have HC := hid (jcheck_any kind m l A B n k ca cb w hm hrm hn hr (by omega) (by omega))
  rw [hj] at HC
  have HM := hid hm; have HN := hid hn; have HRM := hid hrm; have HR := hid hr; have HCO := hid j4; have HCAP := hid hcap
  have hkI : (k : Int) ≤ 64 := by omega
  have hk64' := hid hk64
  clear hm hn hrm hr hj j1 j2 j3 j4 hcap hk64
  go_enter Try.func29, Try.ntmps29
  go_wp2_with fail
  refine Calls.mono HC.out ?_
  rintro e w0 ⟨rfl, hx⟩
  have X0 := hid hx
  clear hx
  go_wp2
  go_loopw [2, 9, 22] (fun lv ov c wr => ∃ i : Nat, i ≤ k ∧ c = .int .i64 i ∧ (∃ B', lv = .slice B' (n - (m.take i).count true) (cb - (m.take i).count true) ∧ Rd w B' (cls (l.drop ((m.take i).count true)))) ∧ wr.ownsRow w0.heap.size 25 3 ov i (cls ((Cel.jn m l).take i)) ∧ Ext w0 wr) (fun _ _ c _ => k - (intOf c).toNat)
  case atStart => exact ⟨0, Nat.zero_le _, rfl, ⟨B, rfl, HR.out⟩, World.ownsRow_nil _ _ _ _, ext_refl _⟩
  case round =>
    obtain ⟨i, hi, rfl, ⟨B', rfl, hB'⟩, hown, X⟩ := hrel
    by_cases hlt : i < k
    · have hia : i < m.length := by rw [HM.out]; exact hlt
      obtain ⟨b1, o1, e1, l1, c1⟩ := HRM.out.bool (by omega)
      subst e1
      have XX := X0.out.then X
      have dm := (XX.cell (p := ⟨b1, o1 + i, none⟩) l1).trans (c1 i hia)
      obtain ⟨b, hb⟩ : ∃ b, b = m[i] := ⟨_, rfl⟩
      rw [← hb] at dm
      have HT := hid (Cel.jn_take m l i hia)
      have HCT := hid (count_take m i hia)
      rw [← hb] at HCT
      have HOWN := hid hown
      have HX := hid X
      cases b with
      | false =>
        have HE := hid (Cel.jat_no m l i hia hb.symm)
        rw [HE.out] at HT
        have HCT2 : Hid ((m.take (i + 1)).count true = (m.take i).count true) := hid (by rw [HCT.out]; rfl)
        obtain ⟨p, hp⟩ : ∃ p, p = (m.take i).count true := ⟨_, rfl⟩
        rw [← hp] at HCT2 hB' ⊢
        obtain ⟨q1, hq1⟩ : ∃ q, q = n - p := ⟨_, rfl⟩
        obtain ⟨q2, hq2⟩ : ∃ q, q = cb - p := ⟨_, rfl⟩
        rw [← hq1, ← hq2]
        have HB := hid hB'
        have HQ1 := hid hq1; have HQ2 := hid hq2
        clear HCT HE hia c1 l1 hb hp hown X XX hB' hq1 hq2
        generalize (Cel.jn m l).take i = D at *
        go_wp2_with (at_builtin; go_loud (refine wpList_app rfl (.tmp 32) (.tmp 34) rowCl rfl _ i (cls D) rfl (own_ext HOWN.out (Ext.new (Ext.new (ext_refl _) _) _)) _ 1 (cls [Cel.O]) rfl (Src.rd Try.underlying22 _ 1 1 _ rfl (rd_lit (by simp) rfl) (cls_one _) (fun h => by cases h)) (by have := hk64'.out; simp only [maxLen]; omega) (by have := hk64'.out; omega) (by have := HX.out.size; simp; omega) ?_; intro v' w5 hown5 hgrow hat hbel))
        go_roundw
        case rel => exact ⟨i + 1, by omega, by go_num, ⟨B', by rw [HCT2.out, HQ1.out, HQ2.out], by rw [HCT2.out]; exact HB.out⟩, by rw [HT.out, cls_app]; exact hown5, ((Ext.new (Ext.new HX.out _) _).trans hbel)⟩
        case measure => simp [intOf]; omega
      | true =>
        have hpn : (m.take i).count true < n := by rw [← HN.out, ← HCO.out]; exact Cel.count_at m i hia hb.symm
        have HE := hid (Cel.jat_yes m l i hia hb.symm (by rw [HN.out]; exact hpn))
        rw [HE.out] at HT
        have HCT2 : Hid ((m.take (i + 1)).count true = (m.take i).count true + 1) := hid (by rw [HCT.out]; rfl)
        obtain ⟨p, hp⟩ : ∃ p, p = (m.take i).count true := ⟨_, rfl⟩
        simp only [← hp] at HCT2 hB' HT hpn ⊢
        obtain ⟨b2, o2, e2, l2, c2⟩ := hB'.cels 0 (by rw [List.length_drop, HN.out]; omega)
        subst e2
        have q := c2 0 (by rw [List.length_drop, HN.out]; omega)
        simp only [List.getElem_drop, Nat.add_zero, Nat.zero_mul] at q
        obtain ⟨cc, hcc⟩ : ∃ cc, cc = l[p]'(by rw [HN.out]; exact hpn) := ⟨_, rfl⟩
        rw [← hcc] at q HT
        obtain ⟨ck, cn, cs⟩ := cc
        have d0 := (XX.cell (p := ⟨b2, o2, none⟩) l2).trans q.1
        have d1 := (XX.cell (p := ⟨b2, o2 + 1, none⟩) l2).trans q.2.1
        have d2 := (XX.cell (p := ⟨b2, o2 + 2, none⟩) l2).trans q.2.2
        obtain ⟨q1, hq1⟩ : ∃ q, q = n - p := ⟨_, rfl⟩
        obtain ⟨q2, hq2⟩ : ∃ q, q = cb - p := ⟨_, rfl⟩
        have HB := hid (Rd.from (f := cel3) (m := 3) (fun _ => rfl) hB' 1 q2 (by rw [List.length_drop, HN.out, hq2]; have := HCAP.out; omega))
        have hsl := fun wx : World => sl_from (P := Try.prog) (t := 22) (e := 25) (m := 3) Try.underlying22 (by kernel_rfl) (some ⟨b2, o2, none⟩) q1 q2 .i64 1 (by omega) wx
        rw [← hq1, ← hq2]
        obtain ⟨B2, hB2⟩ : ∃ B2, B2 = slF (some ⟨b2, o2, none⟩) 1 q2 3 := ⟨_, rfl⟩
        rw [← hB2] at HB hsl
        have hsl' : ∀ wx : World, (Instr.sliceAt 22 (.slice (some ⟨b2, o2, none⟩) q1 q2) (some (.int .i64 1)) none none).run Try.prog wx = .ok (.slice B2 (q1 - 1) (q2 - 1)) wx := hsl
        have hq0 : 0 < q1 := by omega
        have HQ1 := hid hq1; have HQ2 := hid hq2
        have HG := hid (own_not hown (Nat.le_refl _))
        clear HCT HE hia c1 l1 hb hp hown X XX hB' hq1 hq2 c2 q hcc hB2 hsl hpn l2
        generalize (Cel.jn m l).take i = D at *
        go_wp2_with fail
        have d0r := cell_regrown d0
        have d1r := cell_regrown d1
        have d2r := cell_regrown d2
        refine wp_region_plan (w0 := wr) [0, 1, 2, 3, 4] [5, 6] ((ext_refl _).new _) (by kernel_rfl) (by kernel_rfl) (fun _ _ _ _ _ h => h) (by kernel_rfl) (by kernel_rfl) (by rfl) ?_
        simp only [List.filterMap_cons, List.filterMap_nil, List.getElem?_toArray, List.getElem?_cons_zero, List.getElem?_cons_succ]
        repeat (refine wpG_val (by rfl) (by rfl) ?_; intro K hK; go_big_quiet_op; go_big_quiet_on)
        refine wpG_nil ?_
        intro w5 X5
        have HBZ := hid ((Blk.new wr 25 #[.int .i64 0, .int .u64 0, .string ⟨#[]⟩]).keep X5)
        have HX5 := hid (Ext.then ((ext_refl wr).new (.cells #[.int .i64 0, .int .u64 0, .string ⟨#[]⟩] 25)) X5)
        clear X5 dm d0r d1r d2r
        refine wpT_store rfl 25 (.tmp 12) (.tmp 29) rfl wr.heap.size (celA (ck, cn, cs)) rfl rfl 25 _ HBZ.out (by kernel_rfl) rfl (by simp [Value.oneCell']) (Nat.le_refl _) HX5.out ?_
        intro w6 hB6 hF6 hL6
        refine wpT_assign rfl (.tmp 31) (.slice B2 (q1 - 1) (q2 - 1)) rfl rfl hL6 ?_
        refine wpT_nil ?_
        simp only [Act.put, List.setIfInBounds_toArray, List.set_cons_zero, List.set_cons_succ]
        have HB6 := hid hB6
        have HO6 := hid (own_far (own_ext HOWN.out HX5.out) HG.out hF6)
        have HX6 : Hid (Ext wr w6) := hid hL6
        obtain ⟨z0, z1, z2⟩ := hB6.c3
        clear hB6 hF6 hL6 d0 d1 d2 hsl'
        go_wp2_with (at_builtin; go_loud (refine wpList_app rfl (.tmp 32) (.tmp 34) rowCl rfl _ i (cls D) rfl (own_ext HO6.out (Ext.new (ext_refl _) _)) _ 1 (cls [(ck, cn, cs)]) rfl (Src.rd Try.underlying22 _ 1 1 _ rfl (rd_lit rfl rfl) (cls_one _) (fun h => by cases h)) (by have := hk64'.out; simp only [maxLen]; omega) (by have := hk64'.out; omega) (by have := HX.out.size; have := HX6.out.size; simp; omega) ?_; intro v' w7 hown7 hgrow hat hbel))
        go_roundw
        case rel => exact ⟨i + 1, by omega, by go_num, ⟨B2, by rw [HCT2.out]; congr 1 <;> (first | (have := HQ1.out; omega) | (have := HQ2.out; omega)), by rw [HCT2.out]; have := HB.out; rw [List.drop_drop] at this; exact this⟩, by rw [HT.out, cls_app]; exact hown7, (Ext.new (HX.out.then HX6.out) _).trans hbel⟩
        case measure => simp [intOf]; omega
    · obtain rfl : i = k := by omega
      obtain ⟨C, c, rfl, hrd, hB, hc, hcm⟩ := Rd.owned hown
      have HRD := hid hrd
      have HX := hid (X0.out.then X)
      clear hown hrd hB hc hcm X hB'
      go_wp2
      go_returns
      have e : (Cel.jn m l).take i = Cel.jn m l := List.take_of_length_le (by rw [Cel.jn_len, HM.out]; exact Nat.le_refl _)
      rw [e] at HRD
      exact ⟨C, c, rfl, HRD.out, HX.out⟩
end Go.Proofs.Ytikdmnedbfpkeaa
